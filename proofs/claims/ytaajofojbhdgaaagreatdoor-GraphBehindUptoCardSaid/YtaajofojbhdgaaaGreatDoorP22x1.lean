/- Walks and plain facts that the claim uses. -/
import Derived.Test.YtaajofojbhdgaaaGreatDoorP22x0
import Derived.Maps.OwnSet
import Derived.Maps.StringElems
import Derived.Maps.Views
import Derived.StringKeys
import Derived.Lib.SlicesS
import Derived.Deep.RegionHeld3
import Derived.Test.YtaajofojbhdgaaaGreatDoorProg
import Derived.Shelf.Spec.SlicesGrow
import Derived.Ground.Names8Prog
import Derived.Lib.SlBytesConst
set_option maxRecDepth 100000
set_option maxHeartbeats 16000000
set_option linter.unusedSimpArgs false
set_option linter.unusedVariables false
namespace Go.Proofs.YtaajofojbhdgaaaGreatDoor
section
open Go.RowKit Go.Deep Go.Maps Ln Pth Vf
attribute [local go_sem] bt_eq
theorem cut_any (p : T) (w : World) (hm : MX w) (hp : p.length ≤ 6600000) : Calls Tryz.prog 171 #[.string (bs p), .string ⟨#[37]⟩] w fun e w' => e = .returned (.tuple #[.string (bs (frontT p)), .string (bs (backT p)), .bool (cutsT p)]) ∧ Below w.heap.size w w' := by
 obtain ⟨m, hm⟩ := hm
 refine (Tryz.strings_Cut (bs p) ⟨#[37]⟩ m w (by rw [bs_size]; omega) hm).mono ?_
 rintro e w' ⟨h, n, rfl⟩
 refine ⟨?_, below_drewN (Below.refl _ _) n⟩
 rw [h, bs_list]
 rfl
theorem hpre_any (s p : T) (w : World) : Calls Tryz.prog 49 #[.string (bs s), .string (bs p)] w fun e w' => e = .returned (.bool (Lib.hasPrefix s p)) ∧ w = w' := by
 refine (Tryz.strings_HasPrefix (bs s) (bs p) w).mono ?_
 rintro e w' ⟨h1, h2⟩
 rw [bs_list, bs_list] at h1
 exact ⟨h1, h2.symm⟩
theorem hsuf_any (s p : T) (w : World) (hs : s.length ≤ 6600000) : Calls Tryz.prog 149 #[.string (bs s), .string (bs p)] w fun e w' => e = .returned (.bool (Lib.hasSuffix s p)) ∧ w = w' := by
 refine (Tryz.strings_HasSuffix (bs s) (bs p) w (by rw [bs_size]; omega)).mono ?_
 rintro e w' ⟨h1, h2⟩
 rw [bs_list, bs_list] at h1
 exact ⟨h1, h2.symm⟩
theorem bs_eqv (a b : T) : ((bs a).toList == (bs b).toList) = decide (a = b) := by
 rw [bs_toList, bs_toList]
 by_cases h : a = b
 · subst h; simp
 · simp [h]
theorem match_any (p s : T) (w : World) (hm : MX w) (hp : p.length ≤ 6600000) (hs : s.length ≤ 6600000) :
   Calls Tryz.prog 144 #[.string (bs p), .string (bs s)] w fun e w' => e = .returned (.tuple #[.string (bs (matchT p s).1), .bool (matchT p s).2]) ∧ Below w.heap.size w w' := by
 have HC := hide (cut_any p w hm hp)
 have h1 := front_len p
 have h2 := back_len p
 have hR : matchT p s = if cutsT p = false then ([], decide (s = p)) else if s.length ≤ (frontT p).length + (backT p).length then ([], false) else if Lib.hasPrefix s (frontT p) = false then ([], false) else if Lib.hasSuffix s (backT p) = false then ([], false) else ((s.drop (frontT p).length).take (s.length - (backT p).length - (frontT p).length), true) := rfl
 generalize frontT p = fr at *
 generalize backT p = bk at *
 generalize cutsT p = cb at *
 have HPR := hide (fun W => hpre_any s fr W)
 have HSU := hide (fun W => hsuf_any s bk W hs)
 have zs : (bs s).size = s.length := bs_size s
 have zf : (bs fr).size = fr.length := bs_size fr
 have zb : (bs bk).size = bk.length := bs_size bk
 have HEQ := hide (bs_eqv s p)
 have HR := hide hR
 clear hR hm
 have HEX := hide (fun i j => ext_bs s i j)
 obtain ⟨sl, hsl⟩ : ∃ k, s.length = k := ⟨_, rfl⟩
 obtain ⟨fl, hfl⟩ : ∃ k, fr.length = k := ⟨_, rfl⟩
 obtain ⟨bl, hbl⟩ : ∃ k, bk.length = k := ⟨_, rfl⟩
 rw [hsl] at zs hs HR
 rw [hfl] at zf h1 HR
 rw [hbl] at zb h2 HR
 clear hsl hfl hbl
 cases cb with
 | false =>
   have HE := hide (HR.out.trans (if_pos rfl))
   obtain ⟨q, hq⟩ : ∃ q, decide (s = p) = q := ⟨_, rfl⟩
   rw [hq] at HEQ HE
   clear hq
   have heq := HEQ.out
   go_enter Tryz.func144, Tryz.ntmps144
   go_wp2_with fail
   refine HC.out.mono ?_
   rintro e w1 ⟨rfl, hb⟩
   have HB := hide hb
   clear hb
   go_wp2
   go_ret2
   rw [HE.out]
   exact ⟨rfl, HB.out⟩
 | true =>
   have hr1 := HR.out.trans (if_neg (by simp))
   by_cases c1 : sl ≤ fl + bl
   · have HE := hide (hr1.trans (if_pos c1))
     have d1 : decide ((sl : Int) ≤ (fl : Int) + (bl : Int)) = true := by simp; omega
     clear hr1
     go_enter Tryz.func144, Tryz.ntmps144
     go_wp2_with fail
     refine HC.out.mono ?_
     rintro e w1 ⟨rfl, hb⟩
     have HB := hide hb
     clear hb
     go_wp2
     go_ret2
     rw [HE.out]
     exact ⟨rfl, HB.out⟩
   have d1 : decide ((sl : Int) ≤ (fl : Int) + (bl : Int)) = false := by simp; omega
   have hr2 := hr1.trans (if_neg c1)
   obtain ⟨b2, hb2⟩ : ∃ b, Lib.hasPrefix s fr = b := ⟨_, rfl⟩
   obtain ⟨b3, hb3⟩ : ∃ b, Lib.hasSuffix s bk = b := ⟨_, rfl⟩
   rw [hb2] at HPR hr2
   rw [hb3] at HSU hr2
   clear hr1 hb2 hb3
   cases b2 with
   | false =>
     have HE := hide (hr2.trans (if_pos rfl))
     clear hr2
     go_enter Tryz.func144, Tryz.ntmps144
     go_wp2_with fail
     refine HC.out.mono ?_
     rintro e w1 ⟨rfl, hb⟩
     have HB := hide hb
     clear hb
     go_wp2_with fail
     refine (HPR.out w1).mono ?_
     rintro e w' ⟨rfl, rfl⟩
     go_wp2
     go_ret2
     rw [HE.out]
     exact ⟨rfl, HB.out⟩
   | true =>
     have hr3 := hr2.trans (if_neg (by simp))
     clear hr2
     cases b3 with
     | false =>
       have HE := hide (hr3.trans (if_pos rfl))
       clear hr3
       go_enter Tryz.func144, Tryz.ntmps144
       go_wp2_with fail
       refine HC.out.mono ?_
       rintro e w1 ⟨rfl, hb⟩
       have HB := hide hb
       clear hb
       go_wp2_with fail
       refine (HPR.out w1).mono ?_
       rintro e w' ⟨rfl, rfl⟩
       go_wp2_with fail
       refine (HSU.out w1).mono ?_
       rintro e w' ⟨rfl, rfl⟩
       go_wp2
       go_ret2
       rw [HE.out]
       exact ⟨rfl, HB.out⟩
     | true =>
       have HE := hide (hr3.trans (if_neg (by simp)))
       have HX := hide (HEX.out fl (sl - bl))
       have b4 : fl ≤ sl - bl := by omega
       have b5 : ((sl - bl : Nat) : Int) = (sl : Int) - (bl : Int) := by omega
       clear hr3
       go_enter Tryz.func144, Tryz.ntmps144
       go_wp2_with fail
       refine HC.out.mono ?_
       rintro e w1 ⟨rfl, hb⟩
       have HB := hide hb
       clear hb
       go_wp2_with fail
       refine (HPR.out w1).mono ?_
       rintro e w' ⟨rfl, rfl⟩
       go_wp2_with fail
       refine (HSU.out w1).mono ?_
       rintro e w' ⟨rfl, rfl⟩
       go_wp2
       go_ret2
       rw [HE.out]
       refine ⟨?_, HB.out⟩
       show Ending.returned (.tuple #[.string ((bs s).extract fl (sl - bl)), .bool true]) = _
       rw [HX.out]
theorem fill_any (p st : T) (w : World) (hm : MX w) (hp : p.length ≤ 6600000) (hs : st.length ≤ 6600000) :
   Calls Tryz.prog 145 #[.string (bs p), .string (bs st)] w fun e w' => e = .returned (.string (bs (fillT p st))) ∧ Below w.heap.size w w' := by
 have HC := hide (cut_any p w hm hp)
 have h1 := front_len p
 have h2 := back_len p
 have hR : fillT p st = if cutsT p = false then p else frontT p ++ st ++ backT p := rfl
 generalize frontT p = fr at *
 generalize backT p = bk at *
 generalize cutsT p = cb at *
 have HAP := hide (show bs fr ++ bs st ++ bs bk = bs (fr ++ st ++ bk) by rw [bs_app, bs_app])
 have zf : (bs fr).size = fr.length := bs_size fr
 have zb : (bs bk).size = bk.length := bs_size bk
 have zs : (bs st).size = st.length := bs_size st
 have HR := hide hR
 clear hR hm
 cases cb with
 | false =>
   have HE := hide (HR.out.trans (if_pos rfl))
   go_enter Tryz.func145, Tryz.ntmps145
   go_wp2_with fail
   refine HC.out.mono ?_
   rintro e w1 ⟨rfl, hb⟩
   have HB := hide hb
   clear hb
   go_wp2
   go_ret
   rw [HE.out]
   exact ⟨rfl, HB.out⟩
 | true =>
   have HE := hide (HR.out.trans (if_neg (by simp)))
   go_enter Tryz.func145, Tryz.ntmps145
   go_wp2_with fail
   refine HC.out.mono ?_
   rintro e w1 ⟨rfl, hb⟩
   have HB := hide hb
   clear hb
   go_wp2
   go_ret
   rw [HE.out, ← HAP.out]
   exact ⟨rfl, HB.out⟩
theorem trim_az (s : T) (w : World) (hs : s.length ≤ 6600000) : Calls Tryz.prog 103 #[.string (bs s), .string (bs azT)] w fun e w' => e = .returned (.string (bs (Lib.trimS s azT))) ∧ Below w.heap.size w w' := by
 refine (Tryz.strings_Trim_laid (bs s) (bs azT) w (by rw [bs_size]; omega) (by rw [bs_size]; decide) (by rw [bs_list]; exact ascii_of_all (by decide))).mono ?_
 rintro e w' ⟨h1, h2⟩
 rw [bs_list, bs_list] at h1
 exact ⟨h1, h2⟩
theorem isSpecial_any (s : T) (w : World) (hs : s.length ≤ 6600000) : Calls Tryz.prog 63 #[.string (bs s)] w fun e w' => e = .returned (.bool (specT s)) ∧ Below w.heap.size w w' := by
 have HT := hide (fun W => trim_az (s.drop 1) W (by rw [List.length_drop]; omega))
 have HEX := hide (ext_bs s 1 s.length)
 have hR : specT s = (decide (1 < s.length) && (decide (s.getD 0 0 = 46) && decide (Lib.trimS (s.drop 1) azT = []))) := rfl
 have zs : (bs s).size = s.length := bs_size s
 have HAZ := hide (show bs azT = ⟨#[65, 66, 67, 68, 69, 70, 71, 72, 73, 74, 75, 76, 77, 78, 79, 80, 81, 82, 83, 84, 85, 86, 87, 88, 89, 90, 95]⟩ by rfl)
 rw [HAZ.out] at HT
 obtain ⟨tr, htr⟩ : ∃ t, Lib.trimS (s.drop 1) azT = t := ⟨_, rfl⟩
 rw [htr] at HT hR
 clear htr
 have HR := hide hR
 clear hR
 by_cases c1 : 1 < s.length
 case neg =>
   have HE := hide (show specT s = false by rw [HR.out, decide_eq_false c1]; rfl)
   have d1 : decide ((1 : Int) < (s.length : Int)) = false := by simp; omega
   go_enter Tryz.func63, Tryz.ntmps63
   go_wp2
   go_ret
   rw [HE.out]
   exact ⟨rfl, Below.refl _ _⟩
 have d1 : decide ((1 : Int) < (s.length : Int)) = true := by simp; omega
 obtain ⟨x, hx⟩ : ∃ x, s.getD 0 0 = x := ⟨_, rfl⟩
 have hbt : bt (bs s) 0 = x.toNat := by
   rw [← hx]
   unfold bt bs
   simp
 rw [hx] at HR
 clear hx
 by_cases c2 : x = 46
 case neg =>
   have HE := hide (show specT s = false by rw [HR.out, decide_eq_false c2, Bool.false_and, Bool.and_false])
   have d2 : ((x.toNat : Int) == 46) = false := by
     simp only [beq_eq_false_iff_ne]
     intro h
     exact c2 (UInt8.toNat_inj.1 (by have : (46 : UInt8).toNat = 46 := rfl; omega))
   clear c2
   go_enter Tryz.func63, Tryz.ntmps63
   go_wp2
   go_ret
   rw [HE.out]
   exact ⟨rfl, Below.refl _ _⟩
 subst c2
 have d2 : (((46 : UInt8).toNat : Int) == 46) = true := rfl
 have he : (bs tr).toList.isEmpty = decide (tr = []) := by
   rw [bs_toList]
   cases tr <;> simp
 obtain ⟨q, hq⟩ : ∃ q, decide (tr = []) = q := ⟨_, rfl⟩
 have HE := hide (show specT s = q by rw [HR.out, decide_eq_true c1, hq]; rfl)
 rw [hq] at he
 have hex := HEX.out
 rw [List.take_of_length_le (by rw [List.length_drop]; omega)] at hex
 have HX2 := hide hex
 rw [← hex] at HT
 clear hq hex HEX
 go_enter Tryz.func63, Tryz.ntmps63
 go_wp2_with fail
 refine (HT.out w).mono ?_
 rintro e w1 ⟨rfl, hb⟩
 have HB := hide hb
 clear hb
 go_wp2
 go_ret
 rw [HE.out]
 exact ⟨rfl, HB.out⟩
theorem kindp_any (g : Nat) (S : St) (cwd s : T) (w : World) (h : Hs (VS g S) w) (hm : MX w) (h1 : cwd.length ≤ 100000) (h2 : s.length ≤ 6600000) :
   Calls Tryz.prog 150 #[.pointer (some ⟨g, 0, none⟩), .string (bs cwd), .string (bs s)] w fun e w' => e = .returned (.int .i64 (kindT S cwd s)) ∧ Below w.heap.size w w' := by
 have HA := hide (abs_any cwd s w hm (by omega) (by omega))
 have hl : (absF cwd s).1.length ≤ 200 := by
   rcases absF_cases cwd s with ⟨l, g, e, _⟩ | ⟨e, _⟩
   · rw [e]; exact g.len
   · rw [e]; simp
 have hR : kindT S cwd s = if (absF cwd s).2 ≠ 0 then 0 else kindS S (absF cwd s).1 := rfl
 have HK := hide (fun W (hb : Below w.heap.size w W) => vkind_any g S (absF cwd s).1 W (h.below (VS.fr g S) hb) (hm.below hb) (by omega))
 unfold AbsPost at HA
 obtain ⟨q, hq⟩ : ∃ q, (absF cwd s).1 = q := ⟨_, rfl⟩
 obtain ⟨e, he⟩ : ∃ q, (absF cwd s).2 = q := ⟨_, rfl⟩
 rw [hq] at HA HK hR
 rw [he] at HA hR
 have HR := hide hR
 clear hR hq he hl h hm
 by_cases c1 : e = 0
 case neg =>
   obtain ⟨t1, t2⟩ := ne0 c1
   have HE := hide (HR.out.trans (if_pos c1))
   clear c1
   go_enter Tryz.func150, Tryz.ntmps150
   go_wp2_with fail
   refine HA.out.mono ?_
   rintro e w1 ⟨rfl, hb⟩
   have HB := hide hb
   clear hb
   go_wp2
   go_ret
   rw [HE.out]
   exact ⟨rfl, HB.out⟩
 subst c1
 have HE := hide (HR.out.trans (if_neg (by simp)))
 go_enter Tryz.func150, Tryz.ntmps150
 go_wp2_with fail
 refine HA.out.mono ?_
 rintro e w1 ⟨rfl, hb⟩
 have HB := hide hb
 clear hb
 go_wp2_with fail
 refine (HK.out w1 HB.out).mono ?_
 rintro e w2 ⟨rfl, hb⟩
 have HB2 := hide (below_up HB.out hb HB.out.size)
 clear hb
 go_wp2
 go_ret
 rw [HE.out]
 exact ⟨rfl, HB2.out⟩
end
section
open Go.RowKit Go.Deep Go.Maps
def hB (v : Value) : Option (DataW Value × List MemPlace) := some (.held v, [])
def fB (b : Bool) : DataW Value := .held (.bool b)
def valB : Option Bool → Value
 | none => .bool false
 | some b => .bool b
def MapB (w : World) (b : Nat) (P : KV Bool) : Prop := w.ownsMap Tryz.prog 9 hB b P.length (datG fB P)
theorem bkeyed : Keyed Tryz.prog 9 := string_keyed Tryz.underlying9
theorem bzero (w : World) : (zeroValue 4).run Tryz.prog w = .ok (.bool false) w := by kernel_rfl
theorem bkey {s : ByteArray} (h : s.size ≤ 9223372036854775807) : keyOf Tryz.prog 9 (.string s) = some (kLit s) := Go.WideMaps.keyOf_string_mk Tryz.underlying9 (by unfold maxLen; omega)
theorem own_tightB {w : World} {b n : Nat} {P : KV Bool} (h : w.ownsMap Tryz.prog 9 hB b n (datG fB P)) : MapB w b P := by
 obtain ⟨es, clock, h1, h2, h3, h4⟩ := h
 refine ⟨es, clock, h1, h2, ?_, h4⟩
 have := congrArg Maps.size h4
 rw [datG_size] at this
 rw [this]
 simp [Maps.size, length_sorted]
theorem MapB.of {w w' : World} {b : Nat} {P : KV Bool} (h : MapB w b P) (hb : w'.heap[b]? = w.heap[b]?) : MapB w' b P := by
 obtain ⟨es, clock, h1, h2⟩ := h
 exact ⟨es, clock, hb.trans h1, h2⟩
theorem MapB.lt {w : World} {b : Nat} {P : KV Bool} (h : MapB w b P) : b < w.heap.size := by
 obtain ⟨es, clock, h1, h2⟩ := h
 exact (Array.getElem?_eq_some_iff.1 h1).1
theorem bat_val {P : KV Bool} {s : ByteArray} {v : Value} {ps : List MemPlace} (h : hB v = some ((datG fB P).atKey (kLit s) (.held (.bool false)), ps)) : v = valB (getG P s) := by
 unfold hB at h
 rw [datG_at] at h
 cases hg : getG P s with
 | none => rw [hg] at h; injection h with h; injection h with h1 h2; injection h1
 | some e => rw [hg] at h; injection h with h; injection h with h1 h2; unfold fB at h1; injection h1
theorem blook1 {w : World} {b : Nat} {P : KV Bool} (h : MapB w b P) {s : ByteArray} (hs : s.size ≤ 9223372036854775807) :
   (Instr.lookup 71 (.map (some b)) (.string s) false).run Tryz.prog w = .ok (valB (getG P s)) w := by
 obtain ⟨v, ps, hrun, hv⟩ := h.lookup bkeyed Tryz.underlying71 (bzero w) (zd := .held (.bool false)) (zp := []) rfl (bkey hs)
 rw [hrun, bat_val hv]
theorem blen {w : World} {b : Nat} {P : KV Bool} (h : MapB w b P) (ty : TypeId) : (Builtin.len_ #[71] ty #[.map (some b)]).run Tryz.prog w = .ok (.int .i64 P.length) w := by
 rw [h.len Tryz.underlying71 ty, datG_size]
theorem turnedB {w w' : World} {b : Nat} (h : w.mapTurned w' b) : Kp w w' (fun k => k = b) :=
 ⟨h.grown.os, h.grown.tape, h.grown.output, h.grown.size, fun k hk hne => h.grown.block k hk (by intro e; injection e with e; exact hne e)⟩
theorem bstore {w : World} {b : Nat} {P : KV Bool} (h : MapB w b P) (hr : RiseG P) (hl : P.length ≤ 1000000) {s : ByteArray} (hs : s.size ≤ 9223372036854775807) (e : Bool) :
   ∃ w', (Instr.mapUpdate 71 (.map (some b)) (.string s) (.bool e)).run Tryz.prog w = .ok () w' ∧ MapB w' b (putG (s, e) P) ∧ Kp w w' (fun k => k = b) ∧ w'.heap.size = w.heap.size := by
 obtain ⟨w', h1, h2, h3⟩ := h.store bkeyed Tryz.underlying71 (by unfold maxLen; omega) (bkey hs) (val := .bool e) (d := fB e) (ps := []) rfl
 rw [datG_put fB hr] at h2
 refine ⟨w', h1, own_tightB h2, turnedB h3, ?_⟩
 obtain ⟨es, clock, es', clock', hb, rfl⟩ := h3
 simp [ChangeMaps.setBlock]
def MSet (w : World) (b : Nat) (l : List ByteArray) : Prop := ∃ P : KV Bool, MapB w b P ∧ RiseG P ∧ P.length ≤ l.length ∧ ∀ s, getG P s = if Lib.containsS l s = true then some true else none
theorem MSet.of {w w' : World} {b : Nat} {l : List ByteArray} (h : MSet w b l) (hb : w'.heap[b]? = w.heap[b]?) : MSet w' b l := by
 obtain ⟨P, h1, h2⟩ := h
 exact ⟨P, h1.of hb, h2⟩
theorem MSet.lt {w : World} {b : Nat} {l : List ByteArray} (h : MSet w b l) : b < w.heap.size := by
 obtain ⟨P, h1, h2⟩ := h
 exact h1.lt
theorem MSet.look {w : World} {b : Nat} {l : List ByteArray} (h : MSet w b l) {s : ByteArray} (hs : s.size ≤ 9223372036854775807) :
   (Instr.lookup 71 (.map (some b)) (.string s) false).run Tryz.prog w = .ok (.bool (Lib.containsS l s)) w := by
 obtain ⟨P, h1, h2, h3, h4⟩ := h
 rw [blook1 h1 hs, h4]
 cases Lib.containsS l s <;> rfl
theorem MSet.made (w : World) : MSet (w.alloc (.map #[] 0)) w.heap.size [] :=
 ⟨[], own_tightB (P := []) (World.ownsMap_made w Tryz.prog 9 hB), RiseG.nil, Nat.le_refl _, fun s => by rw [show Lib.containsS [] s = false by rw [← Bool.not_eq_true, Lib.containsS_iff]; simp]; rfl⟩
theorem MSet.add {w : World} {b : Nat} {l : List ByteArray} (h : MSet w b l) (hl : l.length ≤ 1000000) {s : ByteArray} (hs : s.size ≤ 9223372036854775807) :
   ∃ w', (Instr.mapUpdate 71 (.map (some b)) (.string s) (.bool true)).run Tryz.prog w = .ok () w' ∧ MSet w' b (l ++ [s]) ∧ Kp w w' (fun k => k = b) ∧ w'.heap.size = w.heap.size := by
 obtain ⟨P, h1, h2, h3, h4⟩ := h
 obtain ⟨w', r1, r2, r3, r4⟩ := bstore h1 h2 (by omega) hs true
 refine ⟨w', r1, ⟨_, r2, RiseG.put _ h2, ?_, fun x => ?_⟩, r3, r4⟩
 · rw [putG_len _ h2, List.length_append, List.length_singleton]
   split <;> omega
 · rw [getG_put, h4]
   by_cases e : s = x
   · subst e
     rw [if_pos rfl, if_pos ((Lib.containsS_iff _ _).2 (by simp))]
   · rw [if_neg e]
     have : Lib.containsS (l ++ [s]) x = Lib.containsS l x := by
       rw [Bool.eq_iff_iff, Lib.containsS_iff, Lib.containsS_iff, List.mem_append, List.mem_singleton]
       constructor
       · rintro (h | h)
         · exact h
         · exact absurd h.symm e
       · exact .inl
     rw [this]
theorem nodup_len {α : Type} : ∀ {l m : List α}, l.Nodup → (∀ x ∈ l, x ∈ m) → l.length ≤ m.length
 | [], _, _, _ => Nat.zero_le _
 | x :: l, m, hn, h => by
   classical
   have h1 := List.nodup_cons.1 hn
   have hx := h x (by simp)
   have ih := nodup_len (m := m.erase x) h1.2 (fun y hy => (List.mem_erase_of_ne (fun (e : y = x) => h1.1 (e ▸ hy))).2 (h y (by simp [hy])))
   rw [List.length_erase_of_mem hx] at ih
   have := List.length_pos_of_mem hx
   simp only [List.length_cons]
   omega
theorem MSet.len {w : World} {b : Nat} {l : List ByteArray} (h : MSet w b l) (hn : l.Nodup) (ty : TypeId) : (Builtin.len_ #[71] ty #[.map (some b)]).run Tryz.prog w = .ok (.int .i64 l.length) w := by
 obtain ⟨P, h1, h2, h3, h4⟩ := h
 rw [blen h1]
 have : l.length ≤ P.length := by
   have hsub : ∀ x ∈ l, x ∈ P.map (·.1) := fun x hx => by
     have := h4 x
     rw [if_pos ((Lib.containsS_iff _ _).2 hx)] at this
     exact List.mem_map.2 ⟨_, getG_mem this, rfl⟩
   have := nodup_len hn hsub
   simpa using this
 rw [show P.length = l.length by omega]
end
section
open Go.RowKit Go.Deep Go.Maps Ln Pth Vf
theorem mkMapB (w : World) : (Instr.makeMap 71 none).run Tryz.prog w = .ok (.map (some w.heap.size)) (w.alloc (.map #[] 0)) := by kernel_rfl
attribute [local go_sem] bt_eq mkMapB
theorem set_any (A : Option Addr) (c : Nat) (L : List ByteArray) (w : World) (hA : SR w A L) (hl : L.length ≤ 100000) (hs : ∀ s ∈ L, s.size ≤ 100000) :
   Calls Tryz.prog 106 #[.slice A L.length c] w fun e w' => ∃ b, e = .returned (.map (some b)) ∧ w.heap.size ≤ b ∧ MSet w' b L ∧ Below w.heap.size w w' := by
 have HA := hide hA
 have HS := hide hs
 obtain ⟨n, hn⟩ : ∃ n, L.length = n := ⟨_, rfl⟩
 have HN := hide hn
 rw [hn] at hl ⊢
 clear hA hs hn
 have hn1 : (n : Int) ≤ 100000 := by omega
 go_enter Tryz.func106, Tryz.ntmps106
 go_wp2
 have hbm := (Below.refl w.heap.size w).alloc (Nat.le_refl _) (.map #[] 0)
 have HM0 := hide (MSet.made w)
 have HB0 := hide hbm
 have hsz0 : (w.alloc (.map #[] 0)).heap.size = w.heap.size + 1 := by simp
 obtain ⟨b, hb⟩ : ∃ b, w.heap.size = b := ⟨_, rfl⟩
 have HBB := hide hb
 rw [hb] at HM0 hsz0 ⊢
 generalize w.alloc (.map #[] 0) = W at HM0 HB0 hsz0 ⊢
 clear hbm hb
 go_loopw [5, 9] (fun _ v9 wr => ∃ k : Nat, v9 = .int .i64 k ∧ k ≤ n ∧ MSet wr b (L.take k) ∧ Kp W wr (fun k => k = b) ∧ wr.heap.size = b + 1) (fun _ v9 _ => n - (intOf v9).toNat)
 case atStart => exact ⟨0, rfl, by omega, HM0.out, Kp.refl _ _, hsz0⟩
 case round =>
   obtain ⟨k, rfl, hk, hm, hkp, hsz⟩ := hrel
   have HMS := hide hm
   have HKP := hide hkp
   have HBW := hide (hkp.below HB0.out (Nat.le_refl _) (fun k e => by have := HBB.out; omega))
   have HAR := hide (HA.out.below HBW.out)
   clear hm hkp
   by_cases hlt : k < n
   · obtain ⟨x, hx⟩ : ∃ x, L[k]? = some x := ⟨L[k]'(by have := HN.out; omega), gE _⟩
     obtain ⟨gs, o, rfl, hg, hc⟩ := HAR.out k x hx
     have hxs := HS.out x (List.mem_of_getElem? hx)
     obtain ⟨w2, hrun, hm2, hk2, hs2⟩ := HMS.out.add (s := x) (by rw [List.length_take]; omega) (by omega)
     have HM2 := hide (show MSet w2 b (L.take (k + 1)) by rw [List.take_add_one, hx]; exact hm2)
     have HK2 := hide (HKP.out.trans (hk2.mono fun k e => .inl e))
     have b1 : (k : Int) < (n : Int) := by omega
     clear hx hm2 hk2 hxs
     go_wp2
     go_roundw
     case rel => exact ⟨k + 1, by go_num, by omega, HM2.out, HK2.out, by omega⟩
     case measure => simp [intOf]; omega
   · obtain rfl : k = n := by omega
     have HE := hide (show L.take k = L from List.take_of_length_le (by have := HN.out; omega))
     rw [HE.out] at HMS
     go_wp2
     go_ret
     exact ⟨b, rfl, by have := HBB.out; omega, HMS.out, HBW.out⟩
theorem two_step {all : List ByteArray} {t : T} : ∀ (L : List ByteArray) (k : Nat) (a : ByteArray), L[k]? = some a → twoGo all t (L.drop k) = if (Lib.hasPrefix t a.data.toList && Lib.containsS all (bs (t.drop a.size))) = true then (a.data.toList, t.drop a.size, true) else twoGo all t (L.drop (k + 1)) := by
 intro L k a h
 have hk := List.getElem?_eq_some_iff.1 h
 obtain ⟨h1, h2⟩ := hk
 rw [List.drop_eq_getElem_cons h1, h2, twoGo]
theorem cutp_any (t : T) (a : ByteArray) (w : World) : Calls Tryz.prog 173 #[.string (bs t), .string a] w fun e w' => e = .returned (.tuple #[.string (bs (Lib.trimPrefix t a.data.toList)), .bool (Lib.hasPrefix t a.data.toList)]) ∧ w = w' := by
 refine (Tryz.strings_CutPrefix (bs t) a w).mono ?_
 rintro e w' ⟨h1, h2⟩
 rw [bs_list] at h1
 exact ⟨h1, h2.symm⟩
def TwoPost (r : T × T × Bool) (w : World) (e : Ending) (w' : World) : Prop := e = .returned (.tuple #[.string (bs r.1), .string (bs r.2.1), .bool r.2.2]) ∧ Below w.heap.size w w'
theorem two_any (t : T) (A : Option Addr) (c : Nat) (L : List ByteArray) (w : World) (hA : SR w A L) (hl : L.length ≤ 100000) (hs : ∀ s ∈ L, s.size ≤ 100000) (ht : t.length ≤ 100000) :
   Calls Tryz.prog 148 #[.string (bs t), .slice A L.length c] w (TwoPost (twoF t L) w) := by
 have HSE := hide (set_any A c L w hA hl hs)
 have HA := hide hA
 have HS := hide hs
 have hz : (bs t).size ≤ 9223372036854775807 := by rw [bs_size]; omega
 obtain ⟨n, hn⟩ : ∃ n, L.length = n := ⟨_, rfl⟩
 have HN := hide hn
 rw [hn] at hl HSE ⊢
 obtain ⟨R, hR⟩ : ∃ R, twoF t L = R := ⟨_, rfl⟩
 have HR := hide hR
 rw [hR]
 clear hA hs hn hR
 have hn1 : (n : Int) ≤ 100000 := by omega
 go_enter Tryz.func148, Tryz.ntmps148
 go_wp2_with fail
 refine HSE.out.mono ?_
 rintro e w1 ⟨b, rfl, hb, hm, hb1⟩
 have HM := hide hm
 have HB1 := hide hb1
 have HA1 := hide (HA.out.below hb1)
 clear hm hb1
 go_wp2
 go_loopw [9, 16] (fun _ v16 wr => ∃ k : Nat, v16 = .int .i64 k ∧ k ≤ n ∧ w1 = wr ∧ Hid (twoGo L t (L.drop k) = R)) (fun _ v16 _ => n - (intOf v16).toNat)
 case atStart => exact ⟨0, rfl, by omega, rfl, HR.out⟩
 case round =>
   obtain ⟨k, rfl, hk, rfl, HG⟩ := hrel
   by_cases hlt : k < n
   · obtain ⟨x, hx⟩ : ∃ x, L[k]? = some x := ⟨L[k]'(by have := HN.out; omega), gE _⟩
     obtain ⟨gs, o, rfl, hg, hc⟩ := HA1.out k x hx
     have hst := two_step (all := L) (t := t) L k x hx
     rw [HG.out] at hst
     have HC := hide (fun W => cutp_any t x W)
     have b1 : (k : Int) < (n : Int) := by omega
     obtain ⟨hp, hhp⟩ : ∃ b, Lib.hasPrefix t x.data.toList = b := ⟨_, rfl⟩
     rw [hhp] at hst HC
     cases hp with
     | false =>
       have HST := hide (show twoGo L t (L.drop (k + 1)) = R from (hst.trans (if_neg (by simp))).symm)
       clear hx hst hhp
       go_wp2_with fail
       refine (HC.out _).mono ?_
       rintro e w' ⟨rfl, rfl⟩
       go_wp2
       go_roundw
       case rel => exact ⟨k + 1, by go_num, by omega, trivial, HST.out⟩
       case measure => simp [intOf]; omega
     | true =>
       have htp : Lib.trimPrefix t x.data.toList = t.drop x.size := by
         unfold Lib.trimPrefix
         rw [if_pos hhp, data_len]
       rw [htp] at HC
       have hlk := HM.out.look (s := bs (t.drop x.size)) (by rw [bs_size, List.length_drop]; omega)
       obtain ⟨cb, hcb⟩ : ∃ b, Lib.containsS L (bs (t.drop x.size)) = b := ⟨_, rfl⟩
       rw [hcb] at hlk hst
       obtain ⟨y, hy⟩ : ∃ y, t.drop x.size = y := ⟨_, rfl⟩
       rw [hy] at HC hlk hst
       have HXX := hide (bs_of x)
       clear hx hhp htp hcb hy
       cases cb with
       | false =>
         have HST := hide (show twoGo L t (L.drop (k + 1)) = R from (hst.trans (if_neg (by simp))).symm)
         clear hst
         go_wp2_with fail
         refine (HC.out _).mono ?_
         rintro e w' ⟨rfl, rfl⟩
         go_wp2
         go_roundw
         case rel => exact ⟨k + 1, by go_num, by omega, trivial, HST.out⟩
         case measure => simp [intOf]; omega
       | true =>
         have HST := hide (show R = (x.data.toList, y, true) from hst.trans (if_pos rfl))
         clear hst
         go_wp2_with fail
         refine (HC.out _).mono ?_
         rintro e w' ⟨rfl, rfl⟩
         go_wp2
         go_ret3
         unfold TwoPost
         rw [HST.out, HXX.out]
         exact ⟨rfl, HB1.out⟩
   · obtain rfl : k = n := by omega
     have HST := hide (show R = (t, [], Lib.containsS L (bs t)) by
       have := HG.out
       rw [List.drop_of_length_le (by have := HN.out; omega), twoGo] at this
       exact this.symm)
     have hlk := HM.out.look (s := bs t) hz
     have hlk2 := (show MSet w1.drew b L from HM.out.of rfl).look (s := bs t) hz
     obtain ⟨cb, hcb⟩ : ∃ b, Lib.containsS L (bs t) = b := ⟨_, rfl⟩
     rw [hcb] at hlk hlk2 HST
     clear hcb
     go_wp2
     go_region
     go_wp2
     go_ret3
     unfold TwoPost
     rw [HST.out]
     exact ⟨rfl, HB1.out.drew⟩
end
section
open Go.RowKit Go.Deep Go.Maps Ln Pth Vf
structure Cf where
 mac : Value
 A : Option Addr
 c : Nat
 L : List Rl
 gf : Nat
 S : St
 cwd : T
 target : T
structure CfOk (C : Cf) (w : World) : Prop where
 rl : RLS w C.A C.L
 vs : Hs (VS C.gf C.S) w
 mx : MX w
 c1 : C.cwd.length ≤ 90000
 t1 : C.target.length ≤ 6000000
 ln : C.L.length ≤ 1000
theorem CfOk.below {C : Cf} {w w' : World} (h : CfOk C w) (hb : Below w.heap.size w w') : CfOk C w' := ⟨h.rl.below hb, h.vs.below (VS.fr _ _) hb, h.mx.below hb, h.c1, h.t1, h.ln⟩
def fcells (C : Cf) (kb : Option Nat) (vn vr : Value) (st : T) (ru : Bool) : Array Value := #[C.mac, .slice C.A C.L.length C.c, .pointer (some ⟨C.gf, 0, none⟩), .string (bs C.cwd), .string (bs C.target), .map kb, vn, vr, .string (bs st), .bool ru]
structure FI (w0 : World) (C : Cf) (g : Nat) (kb : Option Nat) (kl : List ByteArray) (p : Pn) (T : Nat → Prop) (w : World) : Prop where
 below : Below w0.heap.size w0 w
 tg : T g
 tw : ∀ k, T k → w0.heap.size ≤ k ∧ k < w.heap.size
 known : ∀ b, kb = some b → MSet w b kl ∧ ¬ T b
 body : ∃ vn vr, w.heap[g]? = some (.cells (fcells C kb vn vr p.stem p.rule) 110) ∧ OwnS w w0.heap.size vn p.needs ∧ vn.ownBlock ≠ some g ∧ (∀ k, vn.ownBlock = some k → T k) ∧ OwnS w w0.heap.size vr p.recipe ∧ ∀ k, vr.ownBlock = some k → ¬ T k
def FIP (w0 : World) (C : Cf) (g : Nat) (kb : Option Nat) (kl : List ByteArray) (p : Pn) (T : Nat → Prop) (w w' : World) : Prop := ∃ T', FI w0 C g kb kl p T' w' ∧ Kp w w' T ∧ ∀ k, T' k → T k ∨ w.heap.size ≤ k
theorem OwnS.of {w w' : World} {base : Nat} {v : Value} {L : List ByteArray} (h : OwnS w base v L) (hb : ∀ k, v.ownBlock = some k → w'.heap[k]? = w.heap[k]?) : OwnS w' base v L := by
 obtain ⟨h1, h2⟩ := h
 refine ⟨h1, ?_⟩
 rcases h2 with h | ⟨g, cap, cur, rfl, hg, hh, r⟩
 · exact .inl h
 · exact .inr ⟨g, cap, cur, rfl, hg, (hb g rfl).trans hh, r⟩
theorem FI.step {w0 w w' : World} {C : Cf} {g : Nat} {kb : Option Nat} {kl : List ByteArray} {p : Pn} {T : Nat → Prop} (h : FI w0 C g kb kl p T w) (hb : Below w.heap.size w w') : FI w0 C g kb kl p T w' := by
 obtain ⟨vn, vr, h1, h2, h3, h4, h5, h6⟩ := h.body
 refine ⟨below_up h.below hb h.below.size, h.tg, fun k hk => ⟨(h.tw k hk).1, Nat.lt_of_lt_of_le (h.tw k hk).2 hb.size⟩, fun b e => ⟨(h.known b e).1.of (hb.block b (h.known b e).1.lt), (h.known b e).2⟩, vn, vr, (hb.block g (h.tw g h.tg).2).trans h1, h2.below' hb, h3, h4, h5.below' hb, h6⟩
theorem FI.toP {w0 w w' : World} {C : Cf} {g : Nat} {kb : Option Nat} {kl : List ByteArray} {p : Pn} {T : Nat → Prop} (h : FI w0 C g kb kl p T w) (hb : Below w.heap.size w w') : FIP w0 C g kb kl p T w w' :=
 ⟨T, h.step hb, Kp.of_below hb T, fun _ hk => .inl hk⟩
theorem FIP.trans {w0 w w' w'' : World} {C : Cf} {g : Nat} {kb kb' : Option Nat} {kl kl' : List ByteArray} {p p' : Pn} {T : Nat → Prop} (h : FIP w0 C g kb kl p T w w') (h2 : ∀ T', FI w0 C g kb kl p T' w' → FIP w0 C g kb' kl' p' T' w' w'') : FIP w0 C g kb' kl' p' T w w'' := by
 obtain ⟨T', f, k, gr⟩ := h
 obtain ⟨T2, f2, k2, gr2⟩ := h2 T' f
 refine ⟨T2, f2, k.trans (k2.mono gr), fun q hq => ?_⟩
 rcases gr2 q hq with h | h
 · exact gr q h
 · exact .inr (Nat.le_trans k.size h)
theorem FIP.from_ {w0 w w1 w' : World} {C : Cf} {g : Nat} {kb : Option Nat} {kl : List ByteArray} {p : Pn} {T T' : Nat → Prop} (hk : Kp w w1 T) (hg : ∀ k, T' k → T k ∨ w.heap.size ≤ k) (h : FIP w0 C g kb kl p T' w1 w') : FIP w0 C g kb kl p T w w' := by
 obtain ⟨T2, f2, k2, g2⟩ := h
 refine ⟨T2, f2, hk.trans (k2.mono hg), fun q hq => ?_⟩
 rcases g2 q hq with h | h
 · exact hg q h
 · exact .inr (Nat.le_trans hk.size h)
theorem FIP.after {w0 w w1 w' : World} {C : Cf} {g : Nat} {kb : Option Nat} {kl : List ByteArray} {p : Pn} {T : Nat → Prop} (hb : Below w.heap.size w w1) (h : FIP w0 C g kb kl p T w1 w') : FIP w0 C g kb kl p T w w' := by
 obtain ⟨T', f, k, gr⟩ := h
 refine ⟨T', f, (Kp.of_below hb T).trans (k.mono fun q hq => .inl hq), fun q hq => (gr q hq).imp_right (Nat.le_trans hb.size)⟩
theorem FI.opn {w0 w : World} {C : Cf} {g : Nat} {kb : Option Nat} {kl : List ByteArray} {p : Pn} {T : Nat → Prop} (h : FI w0 C g kb kl p T w) : ∃ (A6 : Option Addr) (c6 : Nat) (A7 : Option Addr) (c7 : Nat),
   w.heap[g]? = some (.cells (fcells C kb (.slice A6 p.needs.length c6) (.slice A7 p.recipe.length c7) p.stem p.rule) 110) ∧ OwnS w w0.heap.size (.slice A6 p.needs.length c6) p.needs ∧ (Value.slice A6 p.needs.length c6).ownBlock ≠ some g ∧ (∀ k, (Value.slice A6 p.needs.length c6).ownBlock = some k → T k) ∧ OwnS w w0.heap.size (.slice A7 p.recipe.length c7) p.recipe ∧ (∀ k, (Value.slice A7 p.recipe.length c7).ownBlock = some k → ¬ T k) ∧ SR w A6 p.needs ∧ SR w A7 p.recipe := by
 obtain ⟨vn, vr, h1, h2, h3, h4, h5, h6⟩ := h.body
 obtain ⟨A6, c6, rfl, _, s6, _⟩ := h2.slice
 obtain ⟨A7, c7, rfl, _, s7, _⟩ := h5.slice
 exact ⟨A6, c6, A7, c7, h1, h2, h3, h4, h5, h6, s6, s7⟩
theorem Kp.own {w w' : World} {T : Nat → Prop} (h : Kp w w' T) {base : Nat} {v : Value} {L : List ByteArray} (ho : OwnS w base v L) (hv : ∀ k, v.ownBlock = some k → ¬ T k) : OwnS w' base v L :=
 ho.of fun k hk => h.block k (World.ownsRow.lt ho k hk).2 (hv k hk)
theorem Kp.sr {w w' : World} {T : Nat → Prop} (h : Kp w w' T) {A : Option Addr} {L : List ByteArray} (hs : SR w A L) (hA : ∀ a, A = some a → L ≠ [] → ¬ T a.block) : SR w' A L := fun k s hk => by
 obtain ⟨g, o, e, hg, hc⟩ := hs k s hk
 exact ⟨g, o, e, Nat.lt_of_lt_of_le hg h.size, h.cell hc (hA _ e (by rintro rfl; simp at hk))⟩
theorem SR.lt {w : World} {A : Option Addr} {L : List ByteArray} (h : SR w A L) {a : Addr} (e : A = some a) (hL : L ≠ []) : a.block < w.heap.size := by
 cases L with
 | nil => exact absurd rfl hL
 | cons x L =>
   obtain ⟨g, o, e', hg, _⟩ := h 0 x rfl
   rw [e] at e'
   injection e' with e'
   subst e'
   exact hg
theorem kp_set {w : World} {g j : Nat} {v : Value} : Kp w (w.setCell ⟨g, j, none⟩ v) (fun k => k = g) :=
 ⟨rfl, rfl, rfl, by simp, fun k _ hne => Below.heap_setCell _ _ _ _ (by simpa using hne)⟩
theorem FI.app {w0 w w4 : World} {C : Cf} {g : Nat} {kb : Option Nat} {kl : List ByteArray} {p : Pn} {T : Nat → Prop} (h : FI w0 C g kb kl p T w) {A6 : Option Addr} {c6 : Nat} {A7 : Option Addr} {c7 : Nat} {v4 : Value} {N : List ByteArray}
   (hg : w.heap[g]? = some (.cells (fcells C kb (.slice A6 p.needs.length c6) (.slice A7 p.recipe.length c7) p.stem p.rule) 110)) (hne : (Value.slice A6 p.needs.length c6).ownBlock ≠ some g) (hT : ∀ k, (Value.slice A6 p.needs.length c6).ownBlock = some k → T k)
   (hr : OwnS w w0.heap.size (.slice A7 p.recipe.length c7) p.recipe) (hrT : ∀ k, (Value.slice A7 p.recipe.length c7).ownBlock = some k → ¬ T k)
   (o4 : OwnS w4 w0.heap.size v4 (p.needs ++ N)) (g4 : w.grownBy w4 (Value.slice A6 p.needs.length c6).ownBlock) (b4 : v4.ownBlock = (Value.slice A6 p.needs.length c6).ownBlock ∨ v4.ownBlock = some w.heap.size) :
   FIP w0 C g kb kl { p with needs := p.needs ++ N } T w (w4.setCell ⟨g, 6, none⟩ v4) := by
 have hgl := (h.tw g h.tg).2
 have hk4 : Kp w w4 T := ⟨g4.os, g4.tape, g4.output, g4.size, fun k hk hn => g4.block k hk (fun e => hn (hT k e.symm))⟩
 have hks := kp_set (w := w4) (g := g) (j := 6) (v := v4)
 have hk : Kp w (w4.setCell ⟨g, 6, none⟩ v4) T := hk4.trans (hks.mono fun k e => .inl (e ▸ h.tg))
 have hg4 := (g4.block g hgl (fun e => hne e.symm)).trans hg
 have hv4g : v4.ownBlock ≠ some g := by
   rcases b4 with e | e
   · rw [e]; exact hne
   · rw [e]; intro h2; injection h2 with h2; omega
 have hbel : Below w0.heap.size w0 (w4.setCell ⟨g, 6, none⟩ v4) := hk.below h.below (Nat.le_refl _) (fun k hk => (h.tw k hk).1)
 refine ⟨fun k => T k ∨ v4.ownBlock = some k, ⟨hbel, .inl h.tg, ?_, ?_, v4, .slice A7 p.recipe.length c7, ?_, ?_, hv4g, fun k e => .inr e, hk.own hr hrT, ?_⟩, hk, ?_⟩
 · rintro k (hk1 | hk1)
   · exact ⟨(h.tw k hk1).1, Nat.lt_of_lt_of_le (h.tw k hk1).2 hk.size⟩
   · have := World.ownsRow.lt o4 k hk1
     exact ⟨this.1, by simpa using this.2⟩
 · intro b e
   have hb := h.known b e
   refine ⟨hb.1.of (hk.block b hb.1.lt hb.2), ?_⟩
   rintro (h1 | h1)
   · exact hb.2 h1
   · rcases b4 with e2 | e2
     · exact hb.2 (hT b (e2 ▸ h1))
     · have := hb.1.lt
       rw [e2] at h1
       injection h1 with h1
       omega
 · rw [heapSet hg4]
   rfl
 · exact o4.of fun k e => hks.block k (World.ownsRow.lt o4 k e).2 (fun e2 => hv4g (by rw [e, e2]))
 · rintro k e (h1 | h1)
   · exact hrT k e h1
   · rcases b4 with e2 | e2
     · exact hrT k e (hT k (e2 ▸ h1))
     · have := (World.ownsRow.lt hr k e).2
       rw [e2] at h1
       injection h1 with h1
       omega
 · rintro k (h1 | h1)
   · exact .inl h1
   · rcases b4 with e | e
     · exact .inl (hT k (e ▸ h1))
     · rw [e] at h1; injection h1 with h1; exact .inr (by omega)
theorem FI.rec_ {w0 w : World} {C : Cf} {g : Nat} {kb : Option Nat} {kl : List ByteArray} {p : Pn} {T : Nat → Prop} (h : FI w0 C g kb kl p T w) {v : Value} {R : List ByteArray} (ho : OwnS w w0.heap.size v R) (hv : ∀ k, v.ownBlock = some k → ¬ T k) : FIP w0 C g kb kl { p with recipe := R } T w (w.setCell ⟨g, 7, none⟩ v) := by
 obtain ⟨vn, vr, h1, h2, h3, h4, h5, h6⟩ := h.body
 have hks := kp_set (w := w) (g := g) (j := 7) (v := v)
 have hk : Kp w (w.setCell ⟨g, 7, none⟩ v) T := hks.mono fun k e => e ▸ h.tg
 have hng : v.ownBlock ≠ some g := fun e => hv g e h.tg
 refine ⟨T, ⟨hk.below h.below (Nat.le_refl _) (fun k hk => (h.tw k hk).1), h.tg, fun k hk1 => ⟨(h.tw k hk1).1, Nat.lt_of_lt_of_le (h.tw k hk1).2 hk.size⟩, fun b e => ⟨(h.known b e).1.of (hk.block b (h.known b e).1.lt (h.known b e).2), (h.known b e).2⟩, vn, v, ?_, ?_, h3, h4, hk.own ho hv, hv⟩, hk, fun k hk => .inl hk⟩
 · rw [heapSet h1]
   rfl
 · exact h2.of fun k e => hks.block k (World.ownsRow.lt h2 k e).2 (fun e2 => h3 (by rw [e, e2]))
theorem FI.stem_ {w0 w : World} {C : Cf} {g : Nat} {kb : Option Nat} {kl : List ByteArray} {p : Pn} {T : Nat → Prop} (h : FI w0 C g kb kl p T w) (s : Ln.T) : FIP w0 C g kb kl { p with stem := s } T w (w.setCell ⟨g, 8, none⟩ (.string (bs s))) := by
 obtain ⟨vn, vr, h1, h2, h3, h4, h5, h6⟩ := h.body
 have hks := kp_set (w := w) (g := g) (j := 8) (v := .string (bs s))
 have hk : Kp w (w.setCell ⟨g, 8, none⟩ (.string (bs s))) T := hks.mono fun k e => e ▸ h.tg
 refine ⟨T, ⟨hk.below h.below (Nat.le_refl _) (fun k hk => (h.tw k hk).1), h.tg, fun k hk1 => ⟨(h.tw k hk1).1, Nat.lt_of_lt_of_le (h.tw k hk1).2 hk.size⟩, fun b e => ⟨(h.known b e).1.of (hk.block b (h.known b e).1.lt (h.known b e).2), (h.known b e).2⟩, vn, vr, ?_, ?_, h3, h4, hk.own h5 h6, h6⟩, hk, fun k hk => .inl hk⟩
 · rw [heapSet h1]
   rfl
 · exact h2.of fun k e => hks.block k (World.ownsRow.lt h2 k e).2 (fun e2 => h3 (by rw [e, e2]))
theorem FI.rule_ {w0 w : World} {C : Cf} {g : Nat} {kb : Option Nat} {kl : List ByteArray} {p : Pn} {T : Nat → Prop} (h : FI w0 C g kb kl p T w) (b0 : Bool) : FIP w0 C g kb kl { p with rule := b0 } T w (w.setCell ⟨g, 9, none⟩ (.bool b0)) := by
 obtain ⟨vn, vr, h1, h2, h3, h4, h5, h6⟩ := h.body
 have hks := kp_set (w := w) (g := g) (j := 9) (v := .bool b0)
 have hk : Kp w (w.setCell ⟨g, 9, none⟩ (.bool b0)) T := hks.mono fun k e => e ▸ h.tg
 refine ⟨T, ⟨hk.below h.below (Nat.le_refl _) (fun k hk => (h.tw k hk).1), h.tg, fun k hk1 => ⟨(h.tw k hk1).1, Nat.lt_of_lt_of_le (h.tw k hk1).2 hk.size⟩, fun b e => ⟨(h.known b e).1.of (hk.block b (h.known b e).1.lt (h.known b e).2), (h.known b e).2⟩, vn, vr, ?_, ?_, h3, h4, hk.own h5 h6, h6⟩, hk, fun k hk => .inl hk⟩
 · rw [heapSet h1]
   rfl
 · exact h2.of fun k e => hks.block k (World.ownsRow.lt h2 k e).2 (fun e2 => h3 (by rw [e, e2]))
theorem FI.known_ {w0 w : World} {C : Cf} {g : Nat} {kb : Option Nat} {kl : List ByteArray} {p : Pn} {T : Nat → Prop} (h : FI w0 C g kb kl p T w) {b : Nat} {kl' : List ByteArray} (hm : MSet w b kl') (hb : ¬ T b) : FIP w0 C g (some b) kl' p T w (w.setCell ⟨g, 5, none⟩ (.map (some b))) := by
 obtain ⟨vn, vr, h1, h2, h3, h4, h5, h6⟩ := h.body
 have hks := kp_set (w := w) (g := g) (j := 5) (v := .map (some b))
 have hk : Kp w (w.setCell ⟨g, 5, none⟩ (.map (some b))) T := hks.mono fun k e => e ▸ h.tg
 refine ⟨T, ⟨hk.below h.below (Nat.le_refl _) (fun k hk => (h.tw k hk).1), h.tg, fun k hk1 => ⟨(h.tw k hk1).1, Nat.lt_of_lt_of_le (h.tw k hk1).2 hk.size⟩, ?_, vn, vr, ?_, ?_, h3, h4, hk.own h5 h6, h6⟩, hk, fun k hk => .inl hk⟩
 · intro b' e
   injection e with e
   subst e
   exact ⟨hm.of (hk.block b hm.lt hb), hb⟩
 · rw [heapSet h1]
   rfl
 · exact h2.of fun k e => hks.block k (World.ownsRow.lt h2 k e).2 (fun e2 => h3 (by rw [e, e2]))
end
section
open Go.RowKit Go.Deep Go.Maps Ln Pth Vf
attribute [local go_sem] bt_eq
theorem sclone_any (A : Option Addr) (c : Nat) (L : List ByteArray) (w : World) (hA : SR w A L) (hl : L.length ≤ 1000000) :
   Calls Tryz.prog 42 #[.slice A L.length c] w fun e w' => (∃ v, e = .returned v ∧ OwnS w' w.heap.size v L) ∧ Below w.heap.size w w' := by
 cases A with
 | none =>
   have hL : L = [] := by
     cases L with
     | nil => rfl
     | cons b l =>
       obtain ⟨g, o, e, _⟩ := hA 0 b rfl
       cases e
   subst hL
   refine (Tryz.slices_Clone_string_nil 0 c w).mono ?_
   rintro e w' ⟨rfl, rfl⟩
   exact ⟨⟨_, rfl, OwnS.nil _ _⟩, Below.refl _ _⟩
 | some a =>
   cases L with
   | nil =>
     refine (Tryz.slices_Clone_string_zero a c w).mono ?_
     rintro e w' ⟨v, rfl, ho, _, hb⟩
     exact ⟨⟨v, rfl, ho⟩, hb⟩
   | cons x L =>
     obtain ⟨g, o, e, _, _⟩ := hA 0 x rfl
     injection e with e
     subst e
     refine (Tryz.slices_Clone_string g o (x :: L).length c (x :: L) w (Nat.le_refl _) (by omega) (fun j hj => ?_)).mono ?_
     · obtain ⟨g', o', e, _, hc⟩ := hA j ((x :: L)[j]) (List.getElem?_eq_getElem hj)
       injection e with e
       injection e with e1 e2
       subst e1 e2
       rw [hc]
       congr 2
       rw [List.getD_eq_getElem?_getD, List.getElem?_eq_getElem hj]
       rfl
     · rintro e w' ⟨v, rfl, ho, _, hb⟩
       rw [List.take_length] at ho
       exact ⟨⟨v, rfl, ho⟩, hb⟩
theorem need_any (w0 : World) (C : Cf) (g : Nat) (kb : Option Nat) (kl : List ByteArray) (p : Pn) (T : Nat → Prop) (s : ByteArray) (w : World) (h : FI w0 C g kb kl p T w) (hl : p.needs.length ≤ 900000) :
   Calls Tryz.prog 66 #[.pointer (some ⟨g, 0, none⟩), .string s] w fun e w' => e = .returned (.tuple #[]) ∧ FIP w0 C g kb kl { p with needs := needF p.needs s } T w w' := by
 obtain ⟨A6, c6, A7, c7, hg, o6, hne, hT, o7, hrT, s6, s7⟩ := h.opn
 have hc6 := cellOf hg (j := 6) rfl
 have HC := hide (cont_any A6 c6 p.needs s w s6 (by omega))
 have hR : needF p.needs s = if Lib.containsS p.needs s = true then p.needs else p.needs ++ [s] := rfl
 obtain ⟨b, hb⟩ : ∃ b, Lib.containsS p.needs s = b := ⟨_, rfl⟩
 rw [hb] at HC hR
 have HG := hide hg
 have HH := hide h
 have hbase : w0.heap.size ≤ w.heap.size := h.below.size
 have hgl := (h.tw g h.tg).2
 cases b with
 | true =>
   have HE := hide (show ({ p with needs := needF p.needs s } : Pn) = p by rw [hR, if_pos rfl])
   clear hR hb hg h o6 hT o7 hrT s6 s7
   obtain ⟨n, hn⟩ : ∃ n, p.needs.length = n := ⟨_, rfl⟩
   rw [hn] at HC hc6
   clear hn
   go_enter Tryz.func66, Tryz.ntmps66
   go_wp2_with fail
   refine HC.out.mono ?_
   rintro e w' ⟨rfl, rfl⟩
   go_wp2
   go_end0
   rw [HE.out]
   exact ⟨rfl, HH.out.toP (Below.refl _ _)⟩
 | false =>
   have HE := hide (show ({ p with needs := needF p.needs s } : Pn) = { p with needs := p.needs ++ [s] } by rw [hR, if_neg (by simp)])
   obtain ⟨v4, w4, r4, o4, g4, b4⟩ := run_appS (c := 1) (OwnS.alloc o6 (.cells #[.string s] 9)) (sr_new w s) (by simp; omega) (by simp; omega)
   obtain ⟨A4, c4, e4, _, _, _⟩ := o4.slice
   generalize (p.needs ++ [s]).length = l4 at e4
   subst e4
   have hga : (w.alloc (.cells #[.string s] 9)).heap[g]? = some (.cells (fcells C kb (.slice A6 p.needs.length c6) (.slice A7 p.recipe.length c7) p.stem p.rule) 110) := by rw [Below.heap_alloc _ _ _ hgl]; exact hg
   have hg4 := (g4.block g (by simp; omega) (fun e => hne e.symm)).trans hga
   have hf4 := freeOf hg4 6
   have hc46 := cellOf hg4 (j := 6) rfl
   have HF := hide ((FI.app (HH.out.step ((Below.refl _ _).alloc (Nat.le_refl _) (.cells #[.string s] 9))) hga hne hT (o7.alloc _) hrT o4 g4 b4).after ((Below.refl _ _).alloc (Nat.le_refl _) _))
   clear hR hb hg h o6 hT o7 hrT s6 s7 o4 g4 b4 hga hg4
   obtain ⟨n, hn⟩ : ∃ n, p.needs.length = n := ⟨_, rfl⟩
   rw [hn] at HC hc6 r4
   clear hn
   go_enter Tryz.func66, Tryz.ntmps66
   go_wp2_with fail
   refine HC.out.mono ?_
   rintro e w' ⟨rfl, rfl⟩
   go_wp2_with (at_builtin; refine wpList_app_run ?_ (.tmp 17) (.tmp 19) ?_ ?_ ?_ ?_ r4 ?_; exact rfl; exact rfl; exact rfl; exact rfl; exact rfl)
   go_end0
   rw [HE.out]
   exact ⟨rfl, HF.out⟩
theorem takes_any (w0 : World) (C : Cf) (g : Nat) (kb : Option Nat) (kl : List ByteArray) (p : Pn) (T : Nat → Prop) (nA : Option Addr) (nc : Nat) (ns : List ByteArray) (rA : Option Addr) (rc : Nat) (rs : List ByteArray) (st : Ln.T) (w : World) (h : FI w0 C g kb kl p T w)
   (hn : SR w nA ns) (hnT : ∀ a, nA = some a → ns ≠ [] → ¬ T a.block) (hr : SR w rA rs) (hrT : ∀ a, rA = some a → rs ≠ [] → ¬ T a.block) (l1 : ns.length ≤ 100000) (l2 : rs.length ≤ 100000) (l3 : p.needs.length ≤ 800000) :
   Calls Tryz.prog 147 #[.pointer (some ⟨g, 0, none⟩), .slice nA ns.length nc, .slice rA rs.length rc, .string (bs st)] w fun e w' => e = .returned (.tuple #[]) ∧ FIP w0 C g kb kl (takesF p ns rs st) T w w' := by
 have HND := hide (fun (q : Pn) (T' : Nat → Prop) (s : ByteArray) (W : World) (h : FI w0 C g kb kl q T' W) (hl : q.needs.length ≤ 900000) => need_any w0 C g kb kl q T' s W h hl)
 have HN := hide hn
 have HNT := hide hnT
 have HR := hide hr
 have HRT := hide hrT
 have H := hide h
 obtain ⟨n, hnn⟩ : ∃ n, ns.length = n := ⟨_, rfl⟩
 have HNN := hide hnn
 rw [hnn] at l1 ⊢
 obtain ⟨m, hmm⟩ : ∃ n, rs.length = n := ⟨_, rfl⟩
 have HMM := hide hmm
 rw [hmm] at l2 ⊢
 have hn1 : (n : Int) ≤ 100000 := by omega
 clear h hn hnT hr hrT hnn hmm
 go_enter Tryz.func147, Tryz.ntmps147
 go_wp2
 go_loopw [9, 12] (fun _ v12 wr => ∃ k : Nat, v12 = .int .i64 k ∧ k ≤ n ∧ FIP w0 C g kb kl (addN p (ns.take k)) T w wr) (fun _ v12 _ => n - (intOf v12).toNat)
 case atStart => exact ⟨0, rfl, by omega, H.out.toP (Below.refl _ _)⟩
 case round =>
   obtain ⟨k, rfl, hk, hf⟩ := hrel
   have HF := hide hf
   have HNR := hide (let ⟨_, _, kp, _⟩ := hf; kp.sr HN.out HNT.out)
   clear hf
   by_cases hlt : k < n
   · obtain ⟨x, hx⟩ : ∃ x, ns[k]? = some x := ⟨ns[k]'(by have := HNN.out; omega), gE _⟩
     obtain ⟨gs, o, rfl, hg, hc⟩ := HNR.out k x hx
     obtain ⟨T', hfi, hkp, hgr⟩ := HF.out
     have hql : (addN p (ns.take k)).needs.length ≤ 900000 := by
       have := needsF_len (ns.take k) p.needs
       rw [List.length_take] at this
       show (needsF p.needs (ns.take k)).length ≤ _
       omega
     have HC := hide (HND.out _ T' x wr hfi hql)
     have HE := hide (show ({ addN p (ns.take k) with needs := needF (addN p (ns.take k)).needs x } : Pn) = addN p (ns.take (k + 1)) by
       unfold addN
       rw [needsF_take hx])
     rw [HE.out] at HC
     have HKP := hide (And.intro hkp hgr)
     have b1 : (k : Int) < (n : Int) := by omega
     clear hx hfi hkp hgr hql
     go_wp2_with fail
     refine HC.out.mono ?_
     rintro e w2 ⟨rfl, h2⟩
     have HF2 := hide (h2.from_ HKP.out.1 HKP.out.2)
     clear h2
     go_wp2
     go_roundw
     case rel => exact ⟨k + 1, by go_num, by omega, HF2.out⟩
     case measure => simp [intOf]; omega
   · obtain rfl : k = n := by omega
     have HE := hide (show addN p (ns.take k) = addN p ns by rw [List.take_of_length_le (by have := HNN.out; omega)])
     rw [HE.out] at HF
     obtain ⟨T', hfi, hkp, hgr⟩ := HF.out
     have HFI := hide hfi
     have HKP := hide (And.intro hkp hgr)
     have HCL := hide (sclone_any rA rc rs wr (hkp.sr HR.out HRT.out) (by have := HMM.out; omega))
     rw [HMM.out] at HCL
     clear hfi hkp hgr
     go_wp2_with fail
     refine HCL.out.mono ?_
     rintro e w2 ⟨⟨v, rfl, ho⟩, hb2⟩
     obtain ⟨A4, c4, e4, _, _, _⟩ := ho.slice
     generalize rs.length = l4 at e4
     subst e4
     have hf2 := HFI.out.step hb2
     have hbs := HFI.out.below.size
     have hr1 := hf2.rec_ (ho.base hbs) (fun q hq ht => by have := (World.ownsRow.lt ho q hq).1; have := (HFI.out.tw q ht).2; omega)
     have hr2 := hr1.trans (fun T1 f1 => f1.stem_ st)
     have hr3 := hr2.trans (fun T1 f1 => f1.rule_ true)
     obtain ⟨vn, vr, hg2, _⟩ := hf2.body
     have hz7 := freeOf hg2 7
     have hz8 := freeOf hg2 8
     have hz9 := freeOf hg2 9
     have hy7 := cellOf hg2 (j := 7) rfl
     have hy8 := cellOf hg2 (j := 8) rfl
     have hy9 := cellOf hg2 (j := 9) rfl
     have HF3 := hide (show FIP w0 C g kb kl (takesF p ns rs st) T w _ from (hr3.after hb2).from_ HKP.out.1 HKP.out.2)
     clear hr1 hr2 hr3 hf2 ho hb2 hg2
     go_wp2
     go_end0
     exact ⟨rfl, HF3.out⟩
end
section
open Go.RowKit Go.Deep Go.Maps Ln Pth Vf
attribute [local go_sem] bt_eq
theorem kindT_le (S : St) (cwd s : T) : kindT S cwd s ≤ 2 := by
 unfold kindT
 split
 · omega
 · unfold kindS
   split
   · omega
   · unfold kindM
     split
     · omega
     · split <;> (try split) <;> omega
set_option linter.unusedSimpArgs false in
theorem there1_any (w0 : World) (C : Cf) (g b : Nat) (kl : List ByteArray) (p : Pn) (T : Nat → Prop) (s : ByteArray) (px : Nat) (w : World) (hok : CfOk C w) (h : FI w0 C g (some b) kl p T w) (hp : w.cell? ⟨px, 0, none⟩ = some (.pointer (some ⟨g, 0, none⟩))) (hs : s.size ≤ 6500000) :
   Calls Tryz.prog 172 #[.string s, .pointer (some ⟨px, 0, none⟩)] w fun e w' => e = .returned (.bool (lackF C.S C.cwd kl s)) ∧ Below w.heap.size w w' := by
 have HK := hide (fun W (hb : Below w.heap.size w W) => kindp_any C.gf C.S C.cwd s.data.toList W (hok.below hb).vs (hok.below hb).mx (by have := hok.c1; omega) (by rw [data_len]; omega))
 rw [bs_of] at HK
 obtain ⟨A6, c6, A7, c7, hg, _⟩ := h.opn
 have hc2 : w.cell? ⟨g, 2, none⟩ = some (.pointer (some ⟨C.gf, 0, none⟩)) := cellOf hg (j := 2) rfl
 have hc3 : w.cell? ⟨g, 3, none⟩ = some (.string (bs C.cwd)) := cellOf hg (j := 3) rfl
 have hc5 : w.cell? ⟨g, 5, none⟩ = some (.map (some b)) := cellOf hg (j := 5) rfl
 have hgl := (h.tw g h.tg).2
 have HMS := hide (h.known b rfl).1
 have hR : lackF C.S C.cwd kl s = (decide (kindT C.S C.cwd s.data.toList = 0) && !Lib.containsS kl s) := rfl
 obtain ⟨kk, hkk⟩ : ∃ k, kindT C.S C.cwd s.data.toList = k := ⟨_, rfl⟩
 rw [hkk] at HK hR
 have HR := hide hR
 have hpl := World.block_lt_of_cell? _ _ hp
 have hb0 : Below w.heap.size w w.drew := (Below.refl _ _).drew
 obtain ⟨ki, hki⟩ : ∃ i : Int, (kk : Int) = i := ⟨_, rfl⟩
 rw [hki] at HK
 have hkl : kk ≤ 2 := by rw [← hkk]; exact kindT_le _ _ _
 clear hR hkk hok h hg
 by_cases k0 : kk = 0
 case neg =>
   have HE := hide (show lackF C.S C.cwd kl s = false by rw [HR.out, decide_eq_false k0]; rfl)
   have t1 : (ki == 0) = false := by simp only [beq_eq_false_iff_ne]; omega
   clear k0
   go_enter Tryz.func172, Tryz.ntmps172
   go_wp2_with fail
   refine wp_region_held_drew (S := (fun w' => w'.cell? ⟨px, 0, none⟩ = some (.pointer (some ⟨g, 0, none⟩)) ∧ w'.cell? ⟨g, 2, none⟩ = some (.pointer (some ⟨C.gf, 0, none⟩)) ∧ w'.cell? ⟨g, 3, none⟩ = some (.string (bs C.cwd)))) (by kernel_rfl) ⟨hp, hc2, hc3⟩ (fun hHeld => ?_)
   refine wpAnyH_take (i := 0) (oi := _) (v := ?v0) rfl (by kernel_rfl) (by kernel_rfl) (by kernel_rfl) (fun _ _ _ h => h) (Or.inl ⟨by kernel_rfl, ?y0⟩) (by assumption) ?r0
   case y0 =>
     intro w hSw
     (try dsimp only at hSw)
     go_simp
     try with_reducible rfl
   try simp only [Act.put, List.setIfInBounds_toArray, List.set_cons_zero, List.set_cons_succ]
   refine wpAnyH_take (i := 1) (oi := _) (v := ?v1) rfl (by kernel_rfl) (by kernel_rfl) (by kernel_rfl) (fun _ _ _ h => h) (Or.inl ⟨by kernel_rfl, ?y1⟩) (by assumption) ?r1
   case y1 =>
     intro w hSw
     (try dsimp only at hSw)
     go_simp
     try with_reducible rfl
   try simp only [Act.put, List.setIfInBounds_toArray, List.set_cons_zero, List.set_cons_succ]
   refine wpAnyH_take (i := 2) (oi := _) (v := ?v2) rfl (by kernel_rfl) (by kernel_rfl) (by kernel_rfl) (fun _ _ _ h => h) (Or.inl ⟨by kernel_rfl, ?y2⟩) (by assumption) ?r2
   case y2 =>
     intro w hSw
     (try dsimp only at hSw)
     go_simp
     try with_reducible rfl
   try simp only [Act.put, List.setIfInBounds_toArray, List.set_cons_zero, List.set_cons_succ]
   refine wpAnyH_take (i := 3) (oi := _) (v := ?v3) rfl (by kernel_rfl) (by kernel_rfl) (by kernel_rfl) (fun _ _ _ h => h) (Or.inl ⟨by kernel_rfl, ?y3⟩) (by assumption) ?r3
   case y3 =>
     intro w hSw
     (try dsimp only at hSw)
     go_simp
     try with_reducible rfl
   try simp only [Act.put, List.setIfInBounds_toArray, List.set_cons_zero, List.set_cons_succ]
   refine wpAnyH_take (i := 4) (oi := _) (v := ?v4) rfl (by kernel_rfl) (by kernel_rfl) (by kernel_rfl) (fun _ _ _ h => h) (Or.inl ⟨by kernel_rfl, ?y4⟩) (by assumption) ?r4
   case y4 =>
     intro w hSw
     (try dsimp only at hSw)
     go_simp
     try with_reducible rfl
   try simp only [Act.put, List.setIfInBounds_toArray, List.set_cons_zero, List.set_cons_succ]
   refine wpAnyH_take (i := 5) (oi := _) (v := ?v5) rfl (by kernel_rfl) (by kernel_rfl) (by kernel_rfl) (fun _ _ _ h => h) (Or.inl ⟨by kernel_rfl, ?y5⟩) (by assumption) ?r5
   case y5 =>
     intro w hSw
     (try dsimp only at hSw)
     go_simp
     try with_reducible rfl
   try simp only [Act.put, List.setIfInBounds_toArray, List.set_cons_zero, List.set_cons_succ]
   refine wpAnyH_take (i := 6) (oi := _) (v := ?v6) rfl (by kernel_rfl) (by kernel_rfl) (by kernel_rfl) (fun _ _ _ h => h) (Or.inl ⟨by kernel_rfl, ?y6⟩) (by assumption) ?r6
   case y6 =>
     intro w hSw
     (try dsimp only at hSw)
     go_simp
     try with_reducible rfl
   try simp only [Act.put, List.setIfInBounds_toArray, List.set_cons_zero, List.set_cons_succ]
   refine wpAnyH_take (i := 7) (oi := _) (v := ?v7) rfl (by kernel_rfl) (by kernel_rfl) (by kernel_rfl) (fun _ _ _ h => h) (Or.inl ⟨by kernel_rfl, ?y7⟩) (by assumption) ?r7
   case y7 =>
     intro w hSw
     (try dsimp only at hSw)
     go_simp
     try with_reducible rfl
   try simp only [Act.put, List.setIfInBounds_toArray, List.set_cons_zero, List.set_cons_succ]
   refine wpAnyH_take (i := 8) (oi := _) (v := ?v8) rfl (by kernel_rfl) (by kernel_rfl) (by kernel_rfl) (fun _ _ _ h => h) (Or.inl ⟨by kernel_rfl, ?y8⟩) (by assumption) ?r8
   case y8 =>
     intro w hSw
     (try dsimp only at hSw)
     go_simp
     try with_reducible rfl
   try simp only [Act.put, List.setIfInBounds_toArray, List.set_cons_zero, List.set_cons_succ]
   refine wpAnyH_ready (rs := [9]) (by kernel_rfl) (by simp) ?_
   refine AllReadyH.cons (o := _) rfl (fun K hK => ?_) AllReadyH.nil
   rw [if_pos (by rfl)]
   go_simp
   go_at_call 150
   refine (HK.out _ hb0).mono ?_
   rintro e w1 ⟨rfl, hb⟩
   have u0 := (hb.cell (p := ⟨px, 0, none⟩) hpl).trans hp
   have u2 := (hb.cell (p := ⟨g, 2, none⟩) hgl).trans hc2
   have u3 := (hb.cell (p := ⟨g, 3, none⟩) hgl).trans hc3
   have HB := hide (hb0.trans hb)
   clear hb
   refine hK.out _ _ ⟨u0, u2, u3⟩ (fun hHeld2 => ?_)
   clear hK K hHeld
   try simp only [Act.put, List.setIfInBounds_toArray, List.set_cons_zero, List.set_cons_succ]
   refine wpAnyH_take (i := 10) (oi := _) (v := ?v10) rfl (by kernel_rfl) (by kernel_rfl) (by kernel_rfl) (fun _ _ _ h => h) (Or.inl ⟨by kernel_rfl, ?y10⟩) (by assumption) ?r10
   case y10 =>
     intro w hSw
     (try dsimp only at hSw)
     go_simp
     try with_reducible rfl
   try simp only [Act.put, List.setIfInBounds_toArray, List.set_cons_zero, List.set_cons_succ]
   refine wpAnyH_take (i := 11) (oi := _) (v := ?v11) rfl (by kernel_rfl) (by kernel_rfl) (by kernel_rfl) (fun _ _ _ h => h) (Or.inl ⟨by kernel_rfl, ?y11⟩) (by assumption) ?r11
   case y11 =>
     intro w hSw
     (try dsimp only at hSw)
     go_simp
     try with_reducible rfl
   try simp only [Act.put, List.setIfInBounds_toArray, List.set_cons_zero, List.set_cons_succ]
   refine wpAnyH_take (i := 12) (oi := _) (v := undef) rfl (by kernel_rfl) (by kernel_rfl) (by kernel_rfl) (fun _ _ _ h => h) (Or.inr ⟨by kernel_rfl, rfl⟩) (by assumption) ?_
   try simp only [Act.put, List.setIfInBounds_toArray, List.set_cons_zero, List.set_cons_succ]
   refine wpAnyH_take (i := 13) (oi := _) (v := undef) rfl (by kernel_rfl) (by kernel_rfl) (by kernel_rfl) (fun _ _ _ h => h) (Or.inr ⟨by kernel_rfl, rfl⟩) (by assumption) ?_
   try simp only [Act.put, List.setIfInBounds_toArray, List.set_cons_zero, List.set_cons_succ]
   refine wpAnyH_take (i := 14) (oi := _) (v := undef) rfl (by kernel_rfl) (by kernel_rfl) (by kernel_rfl) (fun _ _ _ h => h) (Or.inr ⟨by kernel_rfl, rfl⟩) (by assumption) ?_
   try simp only [Act.put, List.setIfInBounds_toArray, List.set_cons_zero, List.set_cons_succ]
   refine wpAnyH_take (i := 15) (oi := _) (v := undef) rfl (by kernel_rfl) (by kernel_rfl) (by kernel_rfl) (fun _ _ _ h => h) (Or.inr ⟨by kernel_rfl, rfl⟩) (by assumption) ?_
   try simp only [Act.put, List.setIfInBounds_toArray, List.set_cons_zero, List.set_cons_succ]
   refine wpAnyH_take (i := 16) (oi := _) (v := undef) rfl (by kernel_rfl) (by kernel_rfl) (by kernel_rfl) (fun _ _ _ h => h) (Or.inr ⟨by kernel_rfl, rfl⟩) (by assumption) ?_
   try simp only [Act.put, List.setIfInBounds_toArray, List.set_cons_zero, List.set_cons_succ]
   refine wpAnyH_take (i := 17) (oi := _) (v := undef) rfl (by kernel_rfl) (by kernel_rfl) (by kernel_rfl) (fun _ _ _ h => h) (Or.inr ⟨by kernel_rfl, rfl⟩) (by assumption) ?_
   try simp only [Act.put, List.setIfInBounds_toArray, List.set_cons_zero, List.set_cons_succ]
   refine wpAnyH_take (i := 18) (oi := _) (v := undef) rfl (by kernel_rfl) (by kernel_rfl) (by kernel_rfl) (fun _ _ _ h => h) (Or.inr ⟨by kernel_rfl, rfl⟩) (by assumption) ?_
   try simp only [Act.put, List.setIfInBounds_toArray, List.set_cons_zero, List.set_cons_succ]
   refine wpAnyH_ready (rs := [19]) (by kernel_rfl) (by simp) ?_
   refine AllReadyH.cons (o := _) rfl (fun K hK => ?_) AllReadyH.nil
   rw [if_pos (by kernel_rfl)]
   go_simp
   refine hK.out _ _ ⟨u0, u2, u3⟩ (fun _ => ?_)
   clear hK K
   try simp only [Act.put, List.setIfInBounds_toArray, List.set_cons_zero, List.set_cons_succ]
   refine wpAnyH_ready (rs := [20]) (by kernel_rfl) (by simp) ?_
   refine AllReadyH.cons (o := _) rfl (fun K hK => ?_) AllReadyH.nil
   rw [if_pos (by kernel_rfl)]
   go_simp
   refine hK.out _ _ ⟨u0, u2, u3⟩ (fun _ => ?_)
   clear hK K
   try simp only [Act.put, List.setIfInBounds_toArray, List.set_cons_zero, List.set_cons_succ]
   refine wpAnyH_done (by kernel_rfl) ?_ _
   go_wp2
   go_ret
   rw [HE.out]
   exact ⟨rfl, HB.out⟩
 subst k0
 obtain rfl : ki = 0 := hki.symm
 obtain ⟨cb, hcb⟩ : ∃ c, Lib.containsS kl s = c := ⟨_, rfl⟩
 have HE := hide (show lackF C.S C.cwd kl s = !cb by rw [HR.out, hcb]; rfl)
 have HLK := hide (fun W (hb : Below w.heap.size w W) => (show MSet W b kl from HMS.out.of (hb.block b HMS.out.lt)).look (s := s) (by omega))
 rw [hcb] at HLK
 clear HR hcb
 cases cb with
 | true =>
   go_enter Tryz.func172, Tryz.ntmps172
   go_wp2_with fail
   go_region_held3 (fun w' => w'.cell? ⟨px, 0, none⟩ = some (.pointer (some ⟨g, 0, none⟩)) ∧ w'.cell? ⟨g, 2, none⟩ = some (.pointer (some ⟨C.gf, 0, none⟩)) ∧ w'.cell? ⟨g, 3, none⟩ = some (.string (bs C.cwd)) ∧ w'.cell? ⟨g, 5, none⟩ = some (.map (some b)))
     (first | exact ⟨hp, hc2, hc3, hc5⟩ | exact ⟨u0, u2, u3, u5⟩)
     ((go_at_call 150; refine (HK.out _ hb0).mono ?_; rintro e w1 ⟨rfl, hb⟩; have u0 := (hb.cell (p := ⟨px, 0, none⟩) hpl).trans hp; have u2 := (hb.cell (p := ⟨g, 2, none⟩) hgl).trans hc2; have u3 := (hb.cell (p := ⟨g, 3, none⟩) hgl).trans hc3; have u5 := (hb.cell (p := ⟨g, 5, none⟩) hgl).trans hc5; have hlk := HLK.out w1 (hb0.trans hb); have HB := hide (hb0.trans hb); clear hb))
   go_wp2
   go_ret
   rw [HE.out]
   exact ⟨rfl, HB.out⟩
 | false =>
   go_enter Tryz.func172, Tryz.ntmps172
   go_wp2_with fail
   go_region_held3 (fun w' => w'.cell? ⟨px, 0, none⟩ = some (.pointer (some ⟨g, 0, none⟩)) ∧ w'.cell? ⟨g, 2, none⟩ = some (.pointer (some ⟨C.gf, 0, none⟩)) ∧ w'.cell? ⟨g, 3, none⟩ = some (.string (bs C.cwd)) ∧ w'.cell? ⟨g, 5, none⟩ = some (.map (some b)))
     (first | exact ⟨hp, hc2, hc3, hc5⟩ | exact ⟨u0, u2, u3, u5⟩)
     ((go_at_call 150; refine (HK.out _ hb0).mono ?_; rintro e w1 ⟨rfl, hb⟩; have u0 := (hb.cell (p := ⟨px, 0, none⟩) hpl).trans hp; have u2 := (hb.cell (p := ⟨g, 2, none⟩) hgl).trans hc2; have u3 := (hb.cell (p := ⟨g, 3, none⟩) hgl).trans hc3; have u5 := (hb.cell (p := ⟨g, 5, none⟩) hgl).trans hc5; have hlk := HLK.out w1 (hb0.trans hb); have HB := hide (hb0.trans hb); clear hb))
   go_wp2
   go_ret
   rw [HE.out]
   exact ⟨rfl, HB.out⟩
theorem there_any (w0 : World) (C : Cf) (g b : Nat) (kl : List ByteArray) (p : Pn) (T : Nat → Prop) (A : Option Addr) (c : Nat) (L : List ByteArray) (w : World) (hok : CfOk C w) (h : FI w0 C g (some b) kl p T w) (hA : SR w A L) (hl : L.length ≤ 100000) (hs : ∀ s ∈ L, s.size ≤ 6500000) :
   Calls Tryz.prog 146 #[.pointer (some ⟨g, 0, none⟩), .slice A L.length c] w fun e w' => e = .returned (.bool (thereF C.S C.cwd kl L)) ∧ Below w.heap.size w w' := by
 have hba := (Below.refl w.heap.size w).alloc (Nat.le_refl _) (.cells #[.pointer (some ⟨g, 0, none⟩)] 108)
 have hnb := heapNew w (.cells #[.pointer (some ⟨g, 0, none⟩)] 108)
 have HCF := hide (contf_any (lackF C.S C.cwd kl) 172 #[.pointer (some ⟨w.heap.size, 0, none⟩)] (fun _ _ => by kernel_rfl) A c L (w.alloc (.cells #[.pointer (some ⟨g, 0, none⟩)] 108)) (by omega) (hA.below hba) (fun W x hx hb => by
   have hb' := hba.trans (hb.mono (by simp))
   exact there1_any w0 C g b kl p T x w.heap.size W (hok.below hb') (h.step hb') (cellOf' ((hb.block w.heap.size (by simp)).trans hnb) (j := 0) rfl) (hs x hx) |>.mono fun e w' ⟨h3, h4⟩ => ⟨h3, hb.trans (h4.mono hb.size)⟩))
 have hR : thereF C.S C.cwd kl L = !L.any (lackF C.S C.cwd kl) := rfl
 obtain ⟨q, hq⟩ : ∃ q, L.any (lackF C.S C.cwd kl) = q := ⟨_, rfl⟩
 rw [hq] at HCF hR
 obtain ⟨n, hn⟩ : ∃ n, L.length = n := ⟨_, rfl⟩
 rw [hn] at HCF hl ⊢
 have HE := hide hR
 have HBA := hide hba
 clear hR hq hn hba hnb hok h hA hs
 go_enter Tryz.func146, Tryz.ntmps146
 go_wp2_with fail
 refine HCF.out.mono ?_
 rintro e w' ⟨rfl, hb⟩
 have HB := hide (below_up HBA.out hb HBA.out.size)
 clear hb
 go_wp2
 go_ret
 rw [HE.out]
 exact ⟨rfl, HB.out⟩
end
section
open Go.RowKit Go.Deep Go.Maps Ln Pth Vf
attribute [local go_sem] bt_eq
theorem first_take {target : Ln.T} : ∀ (L : List ByteArray) (k : Nat) (t : ByteArray), firstF target (L.take k) = none → L[k]? = some t → (matchT t.data.toList target).2 = false → firstF target (L.take (k + 1)) = none
 | a :: L, 0, t, _, ht, hm => by
   simp only [List.getElem?_cons_zero] at ht
   injection ht with ht
   subst ht
   simp [firstF, hm]
 | a :: L, k + 1, t, h, ht, hm => by
   rw [List.take_succ_cons, firstF] at h ⊢
   split at h
   · cases h
   · rename_i hc
     rw [if_neg hc]
     exact first_take L k t h (by simpa using ht) hm
theorem first_found {target : Ln.T} : ∀ (L : List ByteArray) (k : Nat) (t : ByteArray), firstF target (L.take k) = none → L[k]? = some t → (matchT t.data.toList target).2 = true → firstF target L = some (matchT t.data.toList target).1
 | a :: L, 0, t, _, ht, hm => by
   simp only [List.getElem?_cons_zero] at ht
   injection ht with ht
   subst ht
   rw [firstF, if_pos hm]
 | a :: L, k + 1, t, h, ht, hm => by
   rw [List.take_succ_cons, firstF] at h
   split at h
   · cases h
   · rename_i hc
     rw [firstF, if_neg hc]
     exact first_found L k t h (by simpa using ht) hm
def fillsL (L : List ByteArray) (st : Ln.T) : List ByteArray := L.map fun s => bs (fillT s.data.toList st)
theorem fills_take {L : List ByteArray} {st : Ln.T} {k : Nat} {x : ByteArray} (h : L[k]? = some x) : (fillsL L st).take (k + 1) = (fillsL L st).take k ++ [bs (fillT x.data.toList st)] := by
 unfold fillsL
 rw [List.take_add_one, List.getElem?_map, h]
 rfl
theorem fills_len (L : List ByteArray) (st : Ln.T) : (fillsL L st).length = L.length := by unfold fillsL; simp
def TryP (w0 : World) (C : Cf) (g b : Nat) (kl : List ByteArray) (p : Pn) (T : Nat → Prop) (r : Option Pn) (w : World) (e : Ending) (w' : World) : Prop := e = .returned (.bool r.isSome) ∧ FIP w0 C g (some b) kl (r.getD p) T w w'
structure RlSz (r : Rl) : Prop where
 t : ∀ x ∈ r.tg.2.2, x.size ≤ 10000
 n : ∀ x ∈ r.nd.2.2, x.size ≤ 10000
theorem pattern_any (w0 : World) (C : Cf) (g b : Nat) (kl : List ByteArray) (p : Pn) (T : Nat → Prop) (r : Rl) (w : World) (hok : CfOk C w) (h : FI w0 C g (some b) kl p T w) (hr : RlOk w0 r) (hz : RlSz r) (hl : p.needs.length ≤ 700000) :
   Calls Tryz.prog 108 #[.pointer (some ⟨g, 0, none⟩), .agg #[sv r.tg, sv r.nd, sv r.rc]] w (TryP w0 C g b kl p T (patO C.S C.cwd kl C.target r p) w) := by
 obtain ⟨⟨tA, tc, tL⟩, ⟨nA, nc, nL⟩, ⟨rA, rc, rL⟩⟩ := r
 have hb0 := h.below
 have hbs : w0.heap.size ≤ w.heap.size := hb0.size
 have HT := hide (fun W (hb : Below w.heap.size w W) => (hr.tg.below hb0).below hb)
 have HN := hide (fun W (hb : Below w.heap.size w W) => (hr.nd.below hb0).below hb)
 have HC := hide (fun W (hb : Below w.heap.size w W) => (hr.rc.below hb0).below hb)
 have ht1 := hr.t1
 have hn1 := hr.n1
 have hr1 := hr.r1
 have HSZ := hide hz
 have HH := hide h
 have HOK := hide hok
 have hR : patO C.S C.cwd kl C.target ⟨(tA, tc, tL), (nA, nc, nL), (rA, rc, rL)⟩ p = match firstF C.target tL with
   | none => none
   | some st => if thereF C.S C.cwd kl (fillsL nL st) = true then some (takesF p (fillsL nL st) rL st) else none := rfl
 obtain ⟨R, hRR⟩ : ∃ R, patO C.S C.cwd kl C.target ⟨(tA, tc, tL), (nA, nc, nL), (rA, rc, rL)⟩ p = R := ⟨_, rfl⟩
 rw [hRR] at hR ⊢
 have HR := hide hR
 obtain ⟨A6, c6, A7, c7, hg, _⟩ := h.opn
 have HG := hide hg
 have hgl := (h.tw g h.tg).2
 have htl := hr.t1
 obtain ⟨n, hn⟩ : ∃ n, tL.length = n := ⟨_, rfl⟩
 obtain ⟨m, hm⟩ : ∃ n, nL.length = n := ⟨_, rfl⟩
 obtain ⟨q, hq⟩ : ∃ n, rL.length = n := ⟨_, rfl⟩
 have HNN := hide hn
 have HMM := hide hm
 have HQQ := hide hq
 have HBX := hide ((Below.refl w.heap.size w).alloc (Nat.le_refl _) (.cells #[.slice tA n tc, .slice nA m nc, .slice rA q rc] 63))
 have HNB := hide (heapNew w (.cells #[.slice tA n tc, .slice nA m nc, .slice rA q rc] 63))
 have HLOW := hide (And.intro hr hbs)
 clear h hok hr hz hR hRR hg hb0
 simp only [sv]
 rw [hn] at ht1
 rw [hm] at hn1
 rw [hq] at hr1
 simp only [hn, hm, hq]
 clear hn hm hq htl
 have hni : (n : Int) ≤ 100000 := by omega
 have hmi : (m : Int) ≤ 100000 := by omega
 go_enter Tryz.func108, Tryz.ntmps108
 go_wp2
 obtain ⟨W, hW⟩ : ∃ W, w.alloc (.cells #[.slice tA n tc, .slice nA m nc, .slice rA q rc] 63) = W := ⟨_, rfl⟩
 rw [hW] at HBX HNB ⊢
 clear hW
 go_loopw [6, 7, 8, 9, 11, 15, 33] (fun _ _ _ _ _ v15 _ wr => ∃ k : Nat, v15 = .int .i64 k ∧ k ≤ n ∧ Hid (firstF C.target (tL.take k) = none) ∧ Below W.heap.size W wr) (fun _ _ _ _ _ v15 _ _ => n - (intOf v15).toNat)
 case atStart => exact ⟨0, rfl, by omega, rfl, Below.refl _ _⟩
 case round =>
   obtain ⟨k, rfl, hk, HFN, hb⟩ := hrel
   generalize wr = W1 at *
   have HBL := hide hb
   have HBW := hide (below_up HBX.out hb HBX.out.size)
   have HTR := hide (HT.out W1 HBW.out)
   have hgr := (HBW.out.block g hgl).trans HG.out
   have hc4 : W1.cell? ⟨g, 4, none⟩ = some (.string (bs C.target)) := cellOf hgr (j := 4) rfl
   have hnb := (hb.block w.heap.size (Array.getElem?_eq_some_iff.1 HNB.out).1).trans HNB.out
   have hd1 := cellOf' hnb (j := 1) rfl
   have hd2 := cellOf' hnb (j := 2) rfl
   clear hb hgr hnb
   by_cases hlt : k < n
   · obtain ⟨x, hx⟩ : ∃ x, tL[k]? = some x := ⟨tL[k]'(by have := HNN.out; omega), gE _⟩
     obtain ⟨gs, o, rfl, hgs, hc⟩ := HTR.out k x hx
     have hxs := HSZ.out.t x (List.mem_of_getElem? hx)
     have HMA := hide (match_any x.data.toList C.target W1 (HOK.out.mx.below HBW.out) (by rw [data_len]; omega) (by have := HOK.out.t1; omega))
     rw [bs_of] at HMA
     have HX := hide hx
     have b1 : (k : Int) < (n : Int) := by omega
     obtain ⟨st, hst⟩ : ∃ s, (matchT x.data.toList C.target).1 = s := ⟨_, rfl⟩
     obtain ⟨ok, hok⟩ : ∃ s, (matchT x.data.toList C.target).2 = s := ⟨_, rfl⟩
     have hsl := matchT_len x.data.toList C.target
     have htl := HOK.out.t1
     rw [hst] at hsl HMA
     rw [hok] at HMA
     have HOO := hide hok
     have HSS := hide hst
     clear hx hok hst hxs
     cases ok with
     | false =>
       have HST := hide (first_take _ k x HFN.out HX.out HOO.out)
       go_wp2_with fail
       refine HMA.out.mono ?_
       rintro e w2 ⟨rfl, hb2⟩
       have HB2 := hide (below_up HBL.out hb2 HBL.out.size)
       clear hb2
       go_wp2
       go_roundw
       case rel => exact ⟨k + 1, by go_num, by omega, HST.out, HB2.out⟩
       case measure => simp [intOf]; omega
     | true =>
       have HFO := hide (first_found _ k x HFN.out HX.out HOO.out)
       rw [HSS.out] at HFO
       go_wp2_with fail
       refine HMA.out.mono ?_
       rintro e w2 ⟨rfl, hb2⟩
       have HB2 := hide (below_up HBW.out hb2 HBW.out.size)
       have hd12 := (hb2.cell (p := ⟨w.heap.size, 1, none⟩) (World.block_lt_of_cell? _ _ hd1)).trans hd1
       have hd22 := (hb2.cell (p := ⟨w.heap.size, 2, none⟩) (World.block_lt_of_cell? _ _ hd2)).trans hd2
       clear hb2 hd1 hd2 hc4
       go_wp2
       go_loopw [9, 11, 33] (fun v9 _ v33 wr => ∃ j : Nat, v33 = .int .i64 j ∧ j ≤ m ∧ OwnS wr w2.heap.size v9 ((fillsL nL st).take j) ∧ Below w2.heap.size w2 wr) (fun _ _ v33 _ => m - (intOf v33).toNat)
       case atStart => exact ⟨0, rfl, by omega, OwnS.nil _ _, Below.refl _ _⟩
       case round =>
         obtain ⟨j, rfl, hj, ho, hb3⟩ := hrel
         have HO := hide ho
         have HB3 := hide hb3
         have HB3W := hide (below_up HB2.out hb3 HB2.out.size)
         have HNR := hide (HN.out wr HB3W.out)
         clear ho hb3
         by_cases hlt2 : j < m
         · obtain ⟨y, hy⟩ : ∃ y, nL[j]? = some y := ⟨nL[j]'(by have := HMM.out; omega), gE _⟩
           obtain ⟨gs2, o2, rfl, hgs2, hcy⟩ := HNR.out j y hy
           have hys := HSZ.out.n y (List.mem_of_getElem? hy)
           have HFI := hide (fill_any y.data.toList st wr (HOK.out.mx.below HB3W.out) (by rw [data_len]; omega) (by omega))
           rw [bs_of] at HFI
           have HTK := hide (fills_take (st := st) hy)
           obtain ⟨z, hz⟩ : ∃ z, bs (fillT y.data.toList st) = z := ⟨_, rfl⟩
           rw [hz] at HFI HTK
           have b2 : (j : Int) < (m : Int) := by omega
           have hql : ((fillsL nL st).take j).length ≤ 100000 := by rw [List.length_take]; omega
           clear hy hz hys
           go_wp2_with fail
           refine HFI.out.mono ?_
           rintro e w3 ⟨rfl, hb4⟩
           obtain ⟨v4, w4, r4, o4, g4, b4⟩ := run_appS (c := 1) (OwnS.alloc (HO.out.below' hb4) (.cells #[.string z] 9)) (sr_new w3 z) (by have := HB3.out.size; have := hb4.size; simp; omega) (by simp; omega)
           have HO4 := hide o4
           have HB4 := hide (((below_up HB3.out hb4 HB3.out.size).alloc (by have := HB3.out.size; have := hb4.size; omega) (.cells #[.string z] 9)).trans ((Below.refl w2.heap.size _).grown g4 (by have := HB3.out.size; have := hb4.size; simp; omega) (fun q hq => (World.ownsRow.lt HO.out q hq).1)))
           clear o4 g4 b4 hb4
           go_wp2_with (at_builtin; refine wpList_app_run ?_ (.tmp 37) (.tmp 41) ?_ ?_ ?_ ?_ r4 ?_; exact rfl; exact rfl; exact rfl; exact rfl; exact rfl)
           go_roundw
           case rel => exact ⟨j + 1, by go_num, by omega, by rw [HTK.out]; exact HO4.out, HB4.out⟩
           case measure => simp [intOf]; omega
         · obtain rfl : j = m := by omega
           have HTF := hide (show (fillsL nL st).take j = fillsL nL st from List.take_of_length_le (by rw [fills_len]; have := HMM.out; omega))
           rw [HTF.out] at HO
           have hfl := fills_len nL st
           rw [HMM.out] at hfl
           have hfz : ∀ s ∈ fillsL nL st, s.size ≤ 6500000 := by
             intro s hs
             obtain ⟨y, hy, rfl⟩ := List.mem_map.1 hs
             have := fillT_len y.data.toList st
             have h3 := HSZ.out.n y hy
             rw [data_len] at this
             rw [bs_size]
             omega
           have HFF := hide (HFO.out)
           have hR2 : R = if thereF C.S C.cwd kl (fillsL nL st) = true then some (takesF p (fillsL nL st) rL st) else none := by
             rw [HR.out, HFO.out]
           have HWS := hide HB2.out.size
           obtain ⟨FL, hFL⟩ : ∃ l, fillsL nL st = l := ⟨_, rfl⟩
           rw [hFL] at HO hfl hfz hR2
           obtain ⟨A9, c9, rfl, _, hs9, hb9⟩ := HO.out.slice
           have HHW := hide (HH.out.step HB3W.out)
           have hok3 := HOK.out.below HB3W.out
           have HTH := hide (there_any w0 C g b kl p T A9 c9 FL wr hok3 HHW.out hs9 (by omega) hfz)
           have HS9 := hide hs9
           have HB9 := hide (fun a (e : A9 = some a) => (World.ownsRow.lt HO.out a.block (hb9 a e)).1)
           rw [hfl] at HTH ⊢
           have HFL := hide hfl
           obtain ⟨tb, htb⟩ : ∃ q, thereF C.S C.cwd kl FL = q := ⟨_, rfl⟩
           rw [htb] at HTH hR2
           have hnbr := (HB3W.out.block w.heap.size)
           clear hfz hFL hs9 hb9 hok3 hfl htb hnbr
           cases tb with
           | false =>
             have HE := hide (hR2.trans (if_neg (by simp)))
             clear hR2
             go_wp2_with fail
             refine HTH.out.mono ?_
             rintro e w4 ⟨rfl, hb4⟩
             have HB4 := hide (below_up HB3W.out hb4 HB3W.out.size)
             clear hb4
             go_wp2
             go_ret
             unfold TryP
             rw [HE.out]
             exact ⟨rfl, HH.out.toP HB4.out⟩
           | true =>
             have HE := hide (hR2.trans (if_pos rfl))
             clear hR2
             have hd2w := (HB3.out.cell (p := ⟨w.heap.size, 2, none⟩) (World.block_lt_of_cell? _ _ hd22)).trans hd22
             go_wp2_with fail
             refine HTH.out.mono ?_
             rintro e w4 ⟨rfl, hb4⟩
             have HB4 := hide (below_up HB3W.out hb4 HB3W.out.size)
             have hd24 := (hb4.cell (p := ⟨w.heap.size, 2, none⟩) (World.block_lt_of_cell? _ _ hd2w)).trans hd2w
             have HTA := hide (takes_any w0 C g (some b) kl p T A9 c9 FL rA rc rL st w4 (HH.out.step HB4.out) (HS9.out.below hb4) (fun a e _ ht => by
               have h1 := HB9.out a e
               have h2 := (HH.out.tw _ ht).2
               have h3 := HWS.out
               omega) (HC.out w4 HB4.out) (fun a e hne ht => by
               have h1 := HLOW.out.1.rc.lt e hne
               have h2 := (HH.out.tw _ ht).1
               omega) (by have := HFL.out; omega) (by have := HQQ.out; omega) (by omega))
             rw [HFL.out, HQQ.out] at HTA
             clear hb4
             go_wp2_with fail
             refine HTA.out.mono ?_
             rintro e w5 ⟨rfl, hf5⟩
             have HF5 := hide (hf5.after HB4.out)
             clear hf5
             go_wp2
             go_ret
             unfold TryP
             rw [HE.out]
             exact ⟨rfl, HF5.out⟩
   · obtain rfl : k = n := by omega
     have HE := hide (show R = none by
       have := HFN.out
       rw [List.take_of_length_le (by have := HNN.out; omega)] at this
       rw [HR.out, this])
     go_wp2
     go_ret
     unfold TryP
     rw [HE.out]
     exact ⟨rfl, HH.out.toP HBW.out⟩
end
section
open Go.RowKit Go.Deep Go.Maps Ln Pth Vf
attribute [local go_sem] bt_eq
def sufT (S : St) (cwd : Ln.T) (kl : List ByteArray) (target : Ln.T) (R : Ln.T × Ln.T × Bool) (rc : List ByteArray) (p : Pn) : Option Pn :=
 if R.2.2 = false then none else
 if Lib.hasSuffix target R.2.1 = false then none else
 if target.length ≤ R.2.1.length then none else
 if Lib.trimSuffix target R.2.1 ++ R.1 = target then none else
 if kindT S cwd (Lib.trimSuffix target R.2.1 ++ R.1) ≠ 1 ∧ Lib.containsS kl (bs (Lib.trimSuffix target R.2.1 ++ R.1)) = false then none else
 some (takesF p [bs (Lib.trimSuffix target R.2.1 ++ R.1)] rc (Lib.trimSuffix target R.2.1))
theorem sufO_1 {S : St} {cwd target : Ln.T} {kl l : List ByteArray} {r : Rl} {p : Pn} (h : plainR r.tg.2.2 = false) : sufO S cwd kl target l r p = none := by
 unfold sufO; rw [if_pos h]
theorem sufO_2 {S : St} {cwd target : Ln.T} {kl l : List ByteArray} {r : Rl} {p : Pn} (h : 0 < r.nd.2.2.length) : sufO S cwd kl target l r p = none := by
 unfold sufO
 rw [if_pos h]
 exact ite_self _
theorem sufO_3 {S : St} {cwd target : Ln.T} {kl l : List ByteArray} {r : Rl} {p : Pn} (h : r.tg.2.2.length ≠ 1) : sufO S cwd kl target l r p = none := by
 unfold sufO
 split
 · rfl
 · split
   · rfl
   · split
     · rename_i t ht
       rw [ht] at h
       exact absurd rfl h
     · rfl
theorem sufO_4 {S : St} {cwd target : Ln.T} {kl l : List ByteArray} {r : Rl} {p : Pn} {t : ByteArray} (h1 : plainR r.tg.2.2 = true) (h2 : r.nd.2.2 = []) (h3 : r.tg.2.2 = [t]) : sufO S cwd kl target l r p = if specT t.data.toList = true then none else if Lib.hasPrefix t.data.toList [46] = false then none else sufT S cwd kl target (twoF t.data.toList l) r.rc.2.2 p := by
 unfold sufO
 rw [if_neg (by rw [h1]; simp), if_neg (by rw [h2]; simp)]
 simp only [h3]
 rfl
theorem twoGo_len {B : Nat} {all : List ByteArray} {t : Ln.T} (ht : t.length ≤ B) : ∀ l : List ByteArray, (∀ x ∈ l, x.size ≤ B) → (twoGo all t l).1.length ≤ B ∧ (twoGo all t l).2.1.length ≤ B
 | [], _ => by unfold twoGo; exact ⟨ht, Nat.zero_le _⟩
 | a :: l, h => by
   unfold twoGo
   split
   · exact ⟨by rw [data_len]; exact h a (by simp), by rw [List.length_drop]; omega⟩
   · exact twoGo_len ht l (fun x hx => h x (by simp [hx]))
theorem trimSuffix_len (s p : Ln.T) : (Lib.trimSuffix s p).length ≤ s.length := by
 unfold Lib.trimSuffix
 split
 · rw [List.length_take]; omega
 · exact Nat.le_refl _
theorem tsuf_any (s p : Ln.T) (w : World) (hs : s.length ≤ 6600000) : Calls Tryz.prog 128 #[.string (bs s), .string (bs p)] w fun e w' => e = .returned (.string (bs (Lib.trimSuffix s p))) ∧ w = w' := by
 refine (Tryz.strings_TrimSuffix (bs s) (bs p) w (by rw [bs_size]; omega)).mono ?_
 rintro e w' ⟨h1, h2⟩
 rw [bs_list, bs_list] at h1
 exact ⟨h1, h2.symm⟩
set_option linter.unusedSimpArgs false in
theorem suffix_any (w0 : World) (C : Cf) (g b : Nat) (kl : List ByteArray) (p : Pn) (T : Nat → Prop) (r : Rl) (lA : Option Addr) (lc : Nat) (lL : List ByteArray) (w : World) (hok : CfOk C w) (h : FI w0 C g (some b) kl p T w) (hr : RlOk w0 r) (hz : ∀ x ∈ r.tg.2.2, x.size ≤ 10000) (hL : SR w lA lL) (hls : ∀ s ∈ lL, s.size ≤ 10000) (hll : lL.length ≤ 100000) (hl : p.needs.length ≤ 700000) :
   Calls Tryz.prog 109 #[.pointer (some ⟨g, 0, none⟩), .agg #[sv r.tg, sv r.nd, sv r.rc], .slice lA lL.length lc] w (TryP w0 C g b kl p T (sufO C.S C.cwd kl C.target lL r p) w) := by
 have hb0 := h.below
 have hbs : w0.heap.size ≤ w.heap.size := hb0.size
 have HPL := hide (fun W (hb : Below w.heap.size w W) => plain_any r W ((hr.below hb0).below hb))
 have H1 := hide (fun h => sufO_1 (S := C.S) (cwd := C.cwd) (kl := kl) (target := C.target) (l := lL) (r := r) (p := p) h)
 have H2 := hide (fun h => sufO_2 (S := C.S) (cwd := C.cwd) (kl := kl) (target := C.target) (l := lL) (r := r) (p := p) h)
 have H3 := hide (fun h => sufO_3 (S := C.S) (cwd := C.cwd) (kl := kl) (target := C.target) (l := lL) (r := r) (p := p) h)
 have H4 := hide (fun t h1 h2 h3 => sufO_4 (S := C.S) (cwd := C.cwd) (kl := kl) (target := C.target) (l := lL) (r := r) (p := p) (t := t) h1 h2 h3)
 generalize sufO C.S C.cwd kl C.target lL r p = R at *
 obtain ⟨⟨tA, tc, tL⟩, ⟨nA, nc, nL⟩, ⟨rA, rc, rL⟩⟩ := r
 have HT := hide (fun W (hb : Below w.heap.size w W) => (hr.tg.below hb0).below hb)
 have HC := hide (fun W (hb : Below w.heap.size w W) => (hr.rc.below hb0).below hb)
 have HLL := hide (fun W (hb : Below w.heap.size w W) => hL.below hb)
 have ht1 := hr.t1
 have hn1 := hr.n1
 have hr1 := hr.r1
 have HSZ := hide hz
 have HH := hide h
 have HOK := hide hok
 obtain ⟨A6, c6, A7, c7, hg, _⟩ := h.opn
 have HG := hide hg
 have hgl := (h.tw g h.tg).2
 dsimp only at ht1 hn1 hr1 H1 H2 H3 H4
 simp only [sv] at HPL ⊢
 obtain ⟨n, hn⟩ : ∃ n, tL.length = n := ⟨_, rfl⟩
 obtain ⟨m, hm⟩ : ∃ n, nL.length = n := ⟨_, rfl⟩
 obtain ⟨q, hq⟩ : ∃ n, rL.length = n := ⟨_, rfl⟩
 obtain ⟨ll, hll2⟩ : ∃ n, lL.length = n := ⟨_, rfl⟩
 have HNN := hide hn
 have HMM := hide hm
 have HQQ := hide hq
 have HLN := hide hll2
 have HLS := hide hls
 have HLOW := hide (And.intro hr hbs)
 rw [hn] at ht1 H3
 rw [hm] at hn1 H2
 rw [hq] at hr1
 rw [hll2] at hll
 simp only [hn, hm, hq, hll2] at HPL ⊢
 have HBX := hide ((Below.refl w.heap.size w).alloc (Nat.le_refl _) (.cells #[.slice tA n tc, .slice nA m nc, .slice rA q rc] 63))
 have HNB := hide (heapNew w (.cells #[.slice tA n tc, .slice nA m nc, .slice rA q rc] 63))
 obtain ⟨p1, hp1⟩ : ∃ q, plainR tL = q := ⟨_, rfl⟩
 rw [hp1] at HPL H1
 have HP1 := hide hp1
 clear h hok hr hz hL hls hg hb0 hn hm hq hll2 hp1
 go_enter Tryz.func109, Tryz.ntmps109
 go_wp2_with fail
 obtain ⟨W, hW⟩ : ∃ W, w.alloc (.cells #[.slice tA n tc, .slice nA m nc, .slice rA q rc] 63) = W := ⟨_, rfl⟩
 rw [hW] at HBX HNB ⊢
 clear hW
 refine (HPL.out _ HBX.out).mono ?_
 rintro e w1 ⟨rfl, hb1⟩
 have HB1 := hide (below_up HBX.out hb1 HBX.out.size)
 have hnb := (hb1.block w.heap.size (Array.getElem?_eq_some_iff.1 HNB.out).1).trans HNB.out
 have HN1 := hide hnb
 have hd0 := cellOf' hnb (j := 0) rfl
 have hd1 := cellOf' hnb (j := 1) rfl
 clear hb1 hnb
 cases p1 with
 | false =>
   have HE := hide (H1.out rfl)
   go_wp2
   go_ret
   unfold TryP
   rw [HE.out]
   exact ⟨rfl, HH.out.toP HB1.out⟩
 | true =>
   by_cases m0 : m = 0
   case neg =>
     have HE := hide (H2.out (by omega))
     have d1 : decide (0 < m) = true := by simp; omega
     clear m0
     go_wp2
     go_ret
     unfold TryP
     rw [HE.out]
     exact ⟨rfl, HH.out.toP HB1.out⟩
   subst m0
   by_cases n0 : n = 1
   case neg =>
     have HE := hide (H3.out n0)
     have d1 : ¬ (n : Int) = 1 := by omega
     clear n0
     go_wp2
     go_ret
     unfold TryP
     rw [HE.out]
     exact ⟨rfl, HH.out.toP HB1.out⟩
   subst n0
   obtain ⟨t, ht⟩ : ∃ t, tL = [t] := by
     have := HNN.out
     cases tL with
     | nil => simp at this
     | cons a l => cases l with
       | nil => exact ⟨a, rfl⟩
       | cons b l => simp at this
   have hn0 : nL = [] := List.eq_nil_of_length_eq_zero HMM.out
   have H4' := hide (H4.out t HP1.out hn0 ht)
   obtain ⟨gs, o, rfl, hgs, hct⟩ := HT.out w1 HB1.out 0 t (by rw [ht]; rfl)
   rw [Nat.add_zero] at hct
   have hts := HSZ.out t (by rw [ht]; simp)
   clear H1 H2 H3 H4 HPL hn0
   have HSP := hide (isSpecial_any t.data.toList w1 (by rw [data_len]; omega))
   rw [bs_of] at HSP
   obtain ⟨sp, hsp⟩ : ∃ q, specT t.data.toList = q := ⟨_, rfl⟩
   rw [hsp] at HSP H4'
   clear hsp
   go_wp2_with fail
   refine HSP.out.mono ?_
   rintro e w2 ⟨rfl, hb2⟩
   have HB2 := hide (below_up HB1.out hb2 HB1.out.size)
   have hnb2 := (hb2.block w.heap.size (Array.getElem?_eq_some_iff.1 HN1.out).1).trans HN1.out
   have HN2 := hide hnb2
   have hd02 : w2.cell? ⟨w.heap.size, 0, none⟩ = some (.slice (some ⟨gs, o, none⟩) 1 tc) := cellOf' hnb2 (j := 0) rfl
   have hct2 : w2.cell? ⟨gs, o, none⟩ = some (.string t) := (hb2.cell (p := ⟨gs, o, none⟩) hgs).trans hct
   clear hb2 hnb2 hd0 hd1 hct
   cases sp with
   | true =>
     have HE := hide (H4'.out.trans (if_pos rfl))
     go_wp2
     go_ret
     unfold TryP
     rw [HE.out]
     exact ⟨rfl, HH.out.toP HB2.out⟩
   | false =>
     have h5 := H4'.out.trans (if_neg (by simp))
     have HPR := hide (fun W => hpre_any t.data.toList [46] W)
     rw [bs_of, show bs [46] = ⟨#[46]⟩ from rfl] at HPR
     obtain ⟨hp, hhp⟩ : ∃ q, Lib.hasPrefix t.data.toList [46] = q := ⟨_, rfl⟩
     rw [hhp] at HPR h5
     have H5 := hide h5
     clear h5 hhp H4'
     go_wp2_with fail
     refine (HPR.out w2).mono ?_
     rintro e w' ⟨rfl, rfl⟩
     cases hp with
     | false =>
       have HE := hide (H5.out.trans (if_pos rfl))
       go_wp2
       go_ret
       unfold TryP
       rw [HE.out]
       exact ⟨rfl, HH.out.toP HB2.out⟩
     | true =>
       have HTW := hide (two_any t.data.toList lA lc lL w2 (HLL.out w2 HB2.out) (by have := HLN.out; omega) (fun x hx => by have := HLS.out x hx; omega) (by rw [data_len]; omega))
       rw [bs_of, HLN.out] at HTW
       have htl : (twoF t.data.toList lL).1.length ≤ 10000 ∧ (twoF t.data.toList lL).2.1.length ≤ 10000 := twoGo_len (by rw [data_len]; exact hts) lL HLS.out
       have h6 := H5.out.trans (if_neg (by simp))
       obtain ⟨⟨fa, fb, fo⟩, hfo⟩ : ∃ q, twoF t.data.toList lL = q := ⟨_, rfl⟩
       rw [hfo] at HTW htl h6
       have H6 := hide (show R = if fo = false then none else if Lib.hasSuffix C.target fb = false then none else if C.target.length ≤ fb.length then none else if Lib.trimSuffix C.target fb ++ fa = C.target then none else if kindT C.S C.cwd (Lib.trimSuffix C.target fb ++ fa) ≠ 1 ∧ Lib.containsS kl (bs (Lib.trimSuffix C.target fb ++ fa)) = false then none else some (takesF p [bs (Lib.trimSuffix C.target fb ++ fa)] rL (Lib.trimSuffix C.target fb)) from h6)
       unfold TwoPost at HTW
       dsimp only at HTW htl
       obtain ⟨hfa, hfb⟩ := htl
       clear h6 hfo H5
       go_wp2_with fail
       refine HTW.out.mono ?_
       rintro e w3 ⟨rfl, hb3⟩
       have HB3 := hide (below_up HB2.out hb3 HB2.out.size)
       have hgr := (HB3.out.block g hgl).trans HG.out
       have hc4 : w3.cell? ⟨g, 3, none⟩ = some (.string (bs C.cwd)) := cellOf hgr (j := 3) rfl
       have hc5 : w3.cell? ⟨g, 4, none⟩ = some (.string (bs C.target)) := cellOf hgr (j := 4) rfl
       have hc3 : w3.cell? ⟨g, 2, none⟩ = some (.pointer (some ⟨C.gf, 0, none⟩)) := cellOf hgr (j := 2) rfl
       have hc6 : w3.cell? ⟨g, 5, none⟩ = some (.map (some b)) := cellOf hgr (j := 5) rfl
       have hnb3 := (hb3.block w.heap.size (Array.getElem?_eq_some_iff.1 HN2.out).1).trans HN2.out
       have hd23 : w3.cell? ⟨w.heap.size, 2, none⟩ = some (.slice rA q rc) := cellOf' hnb3 (j := 2) rfl
       clear hb3 hgr hnb3 hct2 hd02
       cases fo with
       | false =>
         have HE := hide (H6.out.trans (if_pos rfl))
         go_wp2
         go_ret
         unfold TryP
         rw [HE.out]
         exact ⟨rfl, HH.out.toP HB3.out⟩
       | true =>
         have h7 := H6.out.trans (if_neg (by simp))
         have htl := HOK.out.t1
         have HSU := hide (fun W => hsuf_any C.target fb W (by omega))
         obtain ⟨hs, hhs⟩ : ∃ q, Lib.hasSuffix C.target fb = q := ⟨_, rfl⟩
         rw [hhs] at HSU h7
         have H7 := hide h7
         clear h7 hhs H6
         go_wp2_with fail
         refine (HSU.out w3).mono ?_
         rintro e w' ⟨rfl, rfl⟩
         cases hs with
         | false =>
           have HE := hide (H7.out.trans (if_pos rfl))
           go_wp2
           go_ret
           unfold TryP
           rw [HE.out]
           exact ⟨rfl, HH.out.toP HB3.out⟩
         | true =>
           have h8 := H7.out.trans (if_neg (by simp))
           have zt : (bs C.target).size = C.target.length := bs_size _
           have zb : (bs fb).size = fb.length := bs_size _
           have HTS := hide (fun W => tsuf_any C.target fb W (by omega))
           have hstl := trimSuffix_len C.target fb
           obtain ⟨st, hst⟩ : ∃ q, Lib.trimSuffix C.target fb = q := ⟨_, rfl⟩
           rw [hst] at HTS h8 hstl
           have zs : (bs st).size = st.length := bs_size _
           have za : (bs fa).size = fa.length := bs_size _
           have H8 := hide h8
           have HOF := hide (bs_app st fa)
           obtain ⟨tl, htl2⟩ : ∃ q, C.target.length = q := ⟨_, rfl⟩
           obtain ⟨bl, hbl2⟩ : ∃ q, fb.length = q := ⟨_, rfl⟩
           rw [htl2] at zt H8 htl hstl
           rw [hbl2] at zb H8 hfb
           clear h8 hst H7 htl2 hbl2
           by_cases c1 : tl ≤ bl
           case pos =>
             have HE := hide (H8.out.trans (if_pos c1))
             have d1 : decide (tl ≤ bl) = true := by simp; omega
             clear c1
             go_wp2
             go_ret
             unfold TryP
             rw [HE.out]
             exact ⟨rfl, HH.out.toP HB3.out⟩
           have d1 : decide (tl ≤ bl) = false := by simp; omega
           have H9 := hide (H8.out.trans (if_neg c1))
           clear c1 H8
           go_wp2_with fail
           refine (HTS.out w3).mono ?_
           rintro e w' ⟨rfl, rfl⟩
           go_wp2_with fail
           rw [HOF.out]
           obtain ⟨fr, hfr⟩ : ∃ q, st ++ fa = q := ⟨_, rfl⟩
           have hfl : fr.length ≤ 6020000 := by rw [← hfr, List.length_append]; omega
           rw [hfr] at H9 ⊢
           have HEQ := hide (bs_eqv fr C.target)
           have hgl3 : g < w3.heap.size := Nat.lt_of_lt_of_le hgl HB3.out.size
           have HK := hide (fun W (hb : Below w3.heap.size w3 W) => kindp_any C.gf C.S C.cwd fr W (HOK.out.below (below_up HB3.out hb HB3.out.size)).vs (HOK.out.below (below_up HB3.out hb HB3.out.size)).mx (by have := HOK.out.c1; omega) (by omega))
           have hb0 : Below w3.heap.size w3 w3.drew := (Below.refl _ _).drew
           have HTAIL := hide (fun W (hb : Below w.heap.size w W) => takes_any w0 C g (some b) kl p T (some ⟨W.heap.size, 0, none⟩) 1 [bs fr] rA rc rL st (W.alloc (.cells #[.string (bs fr)] 9)) (HH.out.step (hb.alloc hb.size _)) (sr_new W (bs fr)) (fun a e _ ht => by
             injection e with e
             subst e
             have h2 := (HH.out.tw _ ht).2
             have h3 := hb.size
             simp only at h2
             omega) (HC.out _ (hb.alloc hb.size _)) (fun a e hne ht => by
             have h1 := HLOW.out.1.rc.lt e hne
             have h2 := (HH.out.tw _ ht).1
             omega) (by simp) (by have := HQQ.out; omega) (by omega))
           rw [HQQ.out] at HTAIL
           have HMS := hide (HH.out.step HB3.out |>.known b rfl).1
           have hdw := World.block_lt_of_cell? _ _ hd23
           clear hfr HOF zs za zt zb d1 HTS HSU
           by_cases c2 : fr = C.target
           · have HE := hide (H9.out.trans (if_pos c2))
             have heq : ((bs fr).toList == (bs C.target).toList) = true := by rw [HEQ.out, decide_eq_true c2]
             clear c2 H9
             refine wp_region_held_drew (S := (fun w' => w'.cell? ⟨g, 2, none⟩ = some (.pointer (some ⟨C.gf, 0, none⟩)) ∧ w'.cell? ⟨g, 3, none⟩ = some (.string (bs C.cwd)) ∧ w'.cell? ⟨g, 4, none⟩ = some (.string (bs C.target)) ∧ w'.cell? ⟨g, 5, none⟩ = some (.map (some b)))) (by kernel_rfl) ⟨hc3, hc4, hc5, hc6⟩ (fun hHeld => ?_)
             refine wpAnyH_take (i := 0) (oi := _) (v := ?v0) rfl (by kernel_rfl) (by kernel_rfl) (by kernel_rfl) (fun _ _ _ h => h) (Or.inl ⟨by kernel_rfl, ?y0⟩) (by assumption) ?r0
             case y0 =>
               intro w hSw
               (try dsimp only at hSw)
               go_simp
               try with_reducible rfl
             try simp only [Act.put, List.setIfInBounds_toArray, List.set_cons_zero, List.set_cons_succ]
             refine wpAnyH_take (i := 1) (oi := _) (v := ?v1) rfl (by kernel_rfl) (by kernel_rfl) (by kernel_rfl) (fun _ _ _ h => h) (Or.inl ⟨by kernel_rfl, ?y1⟩) (by assumption) ?r1
             case y1 =>
               intro w hSw
               (try dsimp only at hSw)
               go_simp
               try with_reducible rfl
             try simp only [Act.put, List.setIfInBounds_toArray, List.set_cons_zero, List.set_cons_succ]
             refine wpAnyH_take (i := 2) (oi := _) (v := ?v2) rfl (by kernel_rfl) (by kernel_rfl) (by kernel_rfl) (fun _ _ _ h => h) (Or.inl ⟨by kernel_rfl, ?y2⟩) (by assumption) ?r2
             case y2 =>
               intro w hSw
               (try dsimp only at hSw)
               go_simp
               try with_reducible rfl
             try simp only [Act.put, List.setIfInBounds_toArray, List.set_cons_zero, List.set_cons_succ]
             refine wpAnyH_take (i := 3) (oi := _) (v := ?v3) rfl (by kernel_rfl) (by kernel_rfl) (by kernel_rfl) (fun _ _ _ h => h) (Or.inl ⟨by kernel_rfl, ?y3⟩) (by assumption) ?r3
             case y3 =>
               intro w hSw
               (try dsimp only at hSw)
               go_simp
               try with_reducible rfl
             try simp only [Act.put, List.setIfInBounds_toArray, List.set_cons_zero, List.set_cons_succ]
             refine wpAnyH_take (i := 4) (oi := _) (v := ?v4) rfl (by kernel_rfl) (by kernel_rfl) (by kernel_rfl) (fun _ _ _ h => h) (Or.inl ⟨by kernel_rfl, ?y4⟩) (by assumption) ?r4
             case y4 =>
               intro w hSw
               (try dsimp only at hSw)
               go_simp
               try with_reducible rfl
             try simp only [Act.put, List.setIfInBounds_toArray, List.set_cons_zero, List.set_cons_succ]
             refine wpAnyH_take (i := 5) (oi := _) (v := ?v5) rfl (by kernel_rfl) (by kernel_rfl) (by kernel_rfl) (fun _ _ _ h => h) (Or.inl ⟨by kernel_rfl, ?y5⟩) (by assumption) ?r5
             case y5 =>
               intro w hSw
               (try dsimp only at hSw)
               go_simp
               try with_reducible rfl
             try simp only [Act.put, List.setIfInBounds_toArray, List.set_cons_zero, List.set_cons_succ]
             refine wpAnyH_take (i := 6) (oi := _) (v := ?v6) rfl (by kernel_rfl) (by kernel_rfl) (by kernel_rfl) (fun _ _ _ h => h) (Or.inl ⟨by kernel_rfl, ?y6⟩) (by assumption) ?r6
             case y6 =>
               intro w hSw
               (try dsimp only at hSw)
               go_simp
               try with_reducible rfl
             try simp only [Act.put, List.setIfInBounds_toArray, List.set_cons_zero, List.set_cons_succ]
             refine wpAnyH_take (i := 7) (oi := _) (v := undef) rfl (by kernel_rfl) (by kernel_rfl) (by kernel_rfl) (fun _ _ _ h => h) (Or.inr ⟨by kernel_rfl, rfl⟩) (by assumption) ?_
             try simp only [Act.put, List.setIfInBounds_toArray, List.set_cons_zero, List.set_cons_succ]
             refine wpAnyH_take (i := 8) (oi := _) (v := undef) rfl (by kernel_rfl) (by kernel_rfl) (by kernel_rfl) (fun _ _ _ h => h) (Or.inr ⟨by kernel_rfl, rfl⟩) (by assumption) ?_
             try simp only [Act.put, List.setIfInBounds_toArray, List.set_cons_zero, List.set_cons_succ]
             refine wpAnyH_take (i := 9) (oi := _) (v := undef) rfl (by kernel_rfl) (by kernel_rfl) (by kernel_rfl) (fun _ _ _ h => h) (Or.inr ⟨by kernel_rfl, rfl⟩) (by assumption) ?_
             try simp only [Act.put, List.setIfInBounds_toArray, List.set_cons_zero, List.set_cons_succ]
             refine wpAnyH_take (i := 10) (oi := _) (v := undef) rfl (by kernel_rfl) (by kernel_rfl) (by kernel_rfl) (fun _ _ _ h => h) (Or.inr ⟨by kernel_rfl, rfl⟩) (by assumption) ?_
             try simp only [Act.put, List.setIfInBounds_toArray, List.set_cons_zero, List.set_cons_succ]
             refine wpAnyH_take (i := 11) (oi := _) (v := undef) rfl (by kernel_rfl) (by kernel_rfl) (by kernel_rfl) (fun _ _ _ h => h) (Or.inr ⟨by kernel_rfl, rfl⟩) (by assumption) ?_
             try simp only [Act.put, List.setIfInBounds_toArray, List.set_cons_zero, List.set_cons_succ]
             refine wpAnyH_take (i := 12) (oi := _) (v := undef) rfl (by kernel_rfl) (by kernel_rfl) (by kernel_rfl) (fun _ _ _ h => h) (Or.inr ⟨by kernel_rfl, rfl⟩) (by assumption) ?_
             try simp only [Act.put, List.setIfInBounds_toArray, List.set_cons_zero, List.set_cons_succ]
             refine wpAnyH_take (i := 13) (oi := _) (v := undef) rfl (by kernel_rfl) (by kernel_rfl) (by kernel_rfl) (fun _ _ _ h => h) (Or.inr ⟨by kernel_rfl, rfl⟩) (by assumption) ?_
             try simp only [Act.put, List.setIfInBounds_toArray, List.set_cons_zero, List.set_cons_succ]
             refine wpAnyH_take (i := 14) (oi := _) (v := undef) rfl (by kernel_rfl) (by kernel_rfl) (by kernel_rfl) (fun _ _ _ h => h) (Or.inr ⟨by kernel_rfl, rfl⟩) (by assumption) ?_
             try simp only [Act.put, List.setIfInBounds_toArray, List.set_cons_zero, List.set_cons_succ]
             refine wpAnyH_take (i := 15) (oi := _) (v := undef) rfl (by kernel_rfl) (by kernel_rfl) (by kernel_rfl) (fun _ _ _ h => h) (Or.inr ⟨by kernel_rfl, rfl⟩) (by assumption) ?_
             try simp only [Act.put, List.setIfInBounds_toArray, List.set_cons_zero, List.set_cons_succ]
             refine wpAnyH_take (i := 16) (oi := _) (v := undef) rfl (by kernel_rfl) (by kernel_rfl) (by kernel_rfl) (fun _ _ _ h => h) (Or.inr ⟨by kernel_rfl, rfl⟩) (by assumption) ?_
             try simp only [Act.put, List.setIfInBounds_toArray, List.set_cons_zero, List.set_cons_succ]
             refine wpAnyH_take (i := 17) (oi := _) (v := undef) rfl (by kernel_rfl) (by kernel_rfl) (by kernel_rfl) (fun _ _ _ h => h) (Or.inr ⟨by kernel_rfl, rfl⟩) (by assumption) ?_
             try simp only [Act.put, List.setIfInBounds_toArray, List.set_cons_zero, List.set_cons_succ]
             refine wpAnyH_take (i := 18) (oi := _) (v := undef) rfl (by kernel_rfl) (by kernel_rfl) (by kernel_rfl) (fun _ _ _ h => h) (Or.inr ⟨by kernel_rfl, rfl⟩) (by assumption) ?_
             try simp only [Act.put, List.setIfInBounds_toArray, List.set_cons_zero, List.set_cons_succ]
             refine wpAnyH_take (i := 19) (oi := _) (v := undef) rfl (by kernel_rfl) (by kernel_rfl) (by kernel_rfl) (fun _ _ _ h => h) (Or.inr ⟨by kernel_rfl, rfl⟩) (by assumption) ?_
             try simp only [Act.put, List.setIfInBounds_toArray, List.set_cons_zero, List.set_cons_succ]
             refine wpAnyH_take (i := 20) (oi := _) (v := undef) rfl (by kernel_rfl) (by kernel_rfl) (by kernel_rfl) (fun _ _ _ h => h) (Or.inr ⟨by kernel_rfl, rfl⟩) (by assumption) ?_
             try simp only [Act.put, List.setIfInBounds_toArray, List.set_cons_zero, List.set_cons_succ]
             refine wpAnyH_take (i := 21) (oi := _) (v := undef) rfl (by kernel_rfl) (by kernel_rfl) (by kernel_rfl) (fun _ _ _ h => h) (Or.inr ⟨by kernel_rfl, rfl⟩) (by assumption) ?_
             try simp only [Act.put, List.setIfInBounds_toArray, List.set_cons_zero, List.set_cons_succ]
             refine wpAnyH_take (i := 22) (oi := _) (v := undef) rfl (by kernel_rfl) (by kernel_rfl) (by kernel_rfl) (fun _ _ _ h => h) (Or.inr ⟨by kernel_rfl, rfl⟩) (by assumption) ?_
             try simp only [Act.put, List.setIfInBounds_toArray, List.set_cons_zero, List.set_cons_succ]
             refine wpAnyH_take (i := 23) (oi := _) (v := undef) rfl (by kernel_rfl) (by kernel_rfl) (by kernel_rfl) (fun _ _ _ h => h) (Or.inr ⟨by kernel_rfl, rfl⟩) (by assumption) ?_
             try simp only [Act.put, List.setIfInBounds_toArray, List.set_cons_zero, List.set_cons_succ]
             refine wpAnyH_take (i := 24) (oi := _) (v := undef) rfl (by kernel_rfl) (by kernel_rfl) (by kernel_rfl) (fun _ _ _ h => h) (Or.inr ⟨by kernel_rfl, rfl⟩) (by assumption) ?_
             try simp only [Act.put, List.setIfInBounds_toArray, List.set_cons_zero, List.set_cons_succ]
             refine wpAnyH_take (i := 25) (oi := _) (v := undef) rfl (by kernel_rfl) (by kernel_rfl) (by kernel_rfl) (fun _ _ _ h => h) (Or.inr ⟨by kernel_rfl, rfl⟩) (by assumption) ?_
             try simp only [Act.put, List.setIfInBounds_toArray, List.set_cons_zero, List.set_cons_succ]
             refine wpAnyH_take (i := 26) (oi := _) (v := undef) rfl (by kernel_rfl) (by kernel_rfl) (by kernel_rfl) (fun _ _ _ h => h) (Or.inr ⟨by kernel_rfl, rfl⟩) (by assumption) ?_
             try simp only [Act.put, List.setIfInBounds_toArray, List.set_cons_zero, List.set_cons_succ]
             refine wpAnyH_ready (rs := [27]) (by kernel_rfl) (by simp) ?_
             refine AllReadyH.cons (o := _) rfl (fun K hK => ?_) AllReadyH.nil
             rw [if_pos (by kernel_rfl)]
             go_simp
             refine hK.out _ _ ⟨hc3, hc4, hc5, hc6⟩ (fun _ => ?_)
             clear hK K
             try simp only [Act.put, List.setIfInBounds_toArray, List.set_cons_zero, List.set_cons_succ]
             refine wpAnyH_done (by kernel_rfl) ?_ _
             go_wp2
             go_ret
             unfold TryP
             rw [HE.out]
             exact ⟨rfl, HH.out.toP HB3.out.drew⟩
           have heq : ((bs fr).toList == (bs C.target).toList) = false := by rw [HEQ.out, decide_eq_false c2]
           have H10 := hide (H9.out.trans (if_neg c2))
           clear c2 H9 HEQ
           obtain ⟨kk, hkk⟩ : ∃ k, kindT C.S C.cwd fr = k := ⟨_, rfl⟩
           have hkl : kk ≤ 2 := by rw [← hkk]; exact kindT_le _ _ _
           rw [hkk] at HK H10
           obtain ⟨ki, hki⟩ : ∃ i : Int, (kk : Int) = i := ⟨_, rfl⟩
           rw [hki] at HK
           clear hkk
           by_cases k1 : kk = 1
           · subst k1
             obtain rfl : ki = 1 := hki.symm
             have HE := hide (H10.out.trans (if_neg (by simp)))
             clear hki hkl H10
             refine wp_region_held_drew (S := (fun w' => w'.cell? ⟨g, 2, none⟩ = some (.pointer (some ⟨C.gf, 0, none⟩)) ∧ w'.cell? ⟨g, 3, none⟩ = some (.string (bs C.cwd)) ∧ w'.cell? ⟨g, 4, none⟩ = some (.string (bs C.target)) ∧ w'.cell? ⟨g, 5, none⟩ = some (.map (some b)))) (by kernel_rfl) ⟨hc3, hc4, hc5, hc6⟩ (fun hHeld => ?_)
             refine wpAnyH_take (i := 0) (oi := _) (v := ?vB0) rfl (by kernel_rfl) (by kernel_rfl) (by kernel_rfl) (fun _ _ _ h => h) (Or.inl ⟨by kernel_rfl, ?yB0⟩) (by assumption) ?rB0
             case yB0 =>
               intro w hSw
               (try dsimp only at hSw)
               go_simp
               try with_reducible rfl
             try simp only [Act.put, List.setIfInBounds_toArray, List.set_cons_zero, List.set_cons_succ]
             refine wpAnyH_take (i := 1) (oi := _) (v := ?vB1) rfl (by kernel_rfl) (by kernel_rfl) (by kernel_rfl) (fun _ _ _ h => h) (Or.inl ⟨by kernel_rfl, ?yB1⟩) (by assumption) ?rB1
             case yB1 =>
               intro w hSw
               (try dsimp only at hSw)
               go_simp
               try with_reducible rfl
             try simp only [Act.put, List.setIfInBounds_toArray, List.set_cons_zero, List.set_cons_succ]
             refine wpAnyH_take (i := 2) (oi := _) (v := ?vB2) rfl (by kernel_rfl) (by kernel_rfl) (by kernel_rfl) (fun _ _ _ h => h) (Or.inl ⟨by kernel_rfl, ?yB2⟩) (by assumption) ?rB2
             case yB2 =>
               intro w hSw
               (try dsimp only at hSw)
               go_simp
               try with_reducible rfl
             try simp only [Act.put, List.setIfInBounds_toArray, List.set_cons_zero, List.set_cons_succ]
             refine wpAnyH_take (i := 3) (oi := _) (v := ?vB3) rfl (by kernel_rfl) (by kernel_rfl) (by kernel_rfl) (fun _ _ _ h => h) (Or.inl ⟨by kernel_rfl, ?yB3⟩) (by assumption) ?rB3
             case yB3 =>
               intro w hSw
               (try dsimp only at hSw)
               go_simp
               try with_reducible rfl
             try simp only [Act.put, List.setIfInBounds_toArray, List.set_cons_zero, List.set_cons_succ]
             refine wpAnyH_take (i := 4) (oi := _) (v := ?vB4) rfl (by kernel_rfl) (by kernel_rfl) (by kernel_rfl) (fun _ _ _ h => h) (Or.inl ⟨by kernel_rfl, ?yB4⟩) (by assumption) ?rB4
             case yB4 =>
               intro w hSw
               (try dsimp only at hSw)
               go_simp
               try with_reducible rfl
             try simp only [Act.put, List.setIfInBounds_toArray, List.set_cons_zero, List.set_cons_succ]
             refine wpAnyH_take (i := 5) (oi := _) (v := ?vB5) rfl (by kernel_rfl) (by kernel_rfl) (by kernel_rfl) (fun _ _ _ h => h) (Or.inl ⟨by kernel_rfl, ?yB5⟩) (by assumption) ?rB5
             case yB5 =>
               intro w hSw
               (try dsimp only at hSw)
               go_simp
               try with_reducible rfl
             try simp only [Act.put, List.setIfInBounds_toArray, List.set_cons_zero, List.set_cons_succ]
             refine wpAnyH_take (i := 6) (oi := _) (v := ?vB6) rfl (by kernel_rfl) (by kernel_rfl) (by kernel_rfl) (fun _ _ _ h => h) (Or.inl ⟨by kernel_rfl, ?yB6⟩) (by assumption) ?rB6
             case yB6 =>
               intro w hSw
               (try dsimp only at hSw)
               go_simp
               try with_reducible rfl
             try simp only [Act.put, List.setIfInBounds_toArray, List.set_cons_zero, List.set_cons_succ]
             refine wpAnyH_take (i := 7) (oi := _) (v := ?vB7) rfl (by kernel_rfl) (by kernel_rfl) (by kernel_rfl) (fun _ _ _ h => h) (Or.inl ⟨by kernel_rfl, ?yB7⟩) (by assumption) ?rB7
             case yB7 =>
               intro w hSw
               (try dsimp only at hSw)
               go_simp
               try with_reducible rfl
             try simp only [Act.put, List.setIfInBounds_toArray, List.set_cons_zero, List.set_cons_succ]
             refine wpAnyH_take (i := 8) (oi := _) (v := ?vB8) rfl (by kernel_rfl) (by kernel_rfl) (by kernel_rfl) (fun _ _ _ h => h) (Or.inl ⟨by kernel_rfl, ?yB8⟩) (by assumption) ?rB8
             case yB8 =>
               intro w hSw
               (try dsimp only at hSw)
               go_simp
               try with_reducible rfl
             try simp only [Act.put, List.setIfInBounds_toArray, List.set_cons_zero, List.set_cons_succ]
             refine wpAnyH_take (i := 9) (oi := _) (v := ?vB9) rfl (by kernel_rfl) (by kernel_rfl) (by kernel_rfl) (fun _ _ _ h => h) (Or.inl ⟨by kernel_rfl, ?yB9⟩) (by assumption) ?rB9
             case yB9 =>
               intro w hSw
               (try dsimp only at hSw)
               go_simp
               try with_reducible rfl
             try simp only [Act.put, List.setIfInBounds_toArray, List.set_cons_zero, List.set_cons_succ]
             refine wpAnyH_take (i := 10) (oi := _) (v := ?vB10) rfl (by kernel_rfl) (by kernel_rfl) (by kernel_rfl) (fun _ _ _ h => h) (Or.inl ⟨by kernel_rfl, ?yB10⟩) (by assumption) ?rB10
             case yB10 =>
               intro w hSw
               (try dsimp only at hSw)
               go_simp
               try with_reducible rfl
             try simp only [Act.put, List.setIfInBounds_toArray, List.set_cons_zero, List.set_cons_succ]
             refine wpAnyH_take (i := 11) (oi := _) (v := ?vB11) rfl (by kernel_rfl) (by kernel_rfl) (by kernel_rfl) (fun _ _ _ h => h) (Or.inl ⟨by kernel_rfl, ?yB11⟩) (by assumption) ?rB11
             case yB11 =>
               intro w hSw
               (try dsimp only at hSw)
               go_simp
               try with_reducible rfl
             try simp only [Act.put, List.setIfInBounds_toArray, List.set_cons_zero, List.set_cons_succ]
             refine wpAnyH_take (i := 12) (oi := _) (v := ?vB12) rfl (by kernel_rfl) (by kernel_rfl) (by kernel_rfl) (fun _ _ _ h => h) (Or.inl ⟨by kernel_rfl, ?yB12⟩) (by assumption) ?rB12
             case yB12 =>
               intro w hSw
               (try dsimp only at hSw)
               go_simp
               try with_reducible rfl
             try simp only [Act.put, List.setIfInBounds_toArray, List.set_cons_zero, List.set_cons_succ]
             refine wpAnyH_take (i := 13) (oi := _) (v := ?vB13) rfl (by kernel_rfl) (by kernel_rfl) (by kernel_rfl) (fun _ _ _ h => h) (Or.inl ⟨by kernel_rfl, ?yB13⟩) (by assumption) ?rB13
             case yB13 =>
               intro w hSw
               (try dsimp only at hSw)
               go_simp
               try with_reducible rfl
             try simp only [Act.put, List.setIfInBounds_toArray, List.set_cons_zero, List.set_cons_succ]
             refine wpAnyH_take (i := 14) (oi := _) (v := ?vB14) rfl (by kernel_rfl) (by kernel_rfl) (by kernel_rfl) (fun _ _ _ h => h) (Or.inl ⟨by kernel_rfl, ?yB14⟩) (by assumption) ?rB14
             case yB14 =>
               intro w hSw
               (try dsimp only at hSw)
               go_simp
               try with_reducible rfl
             try simp only [Act.put, List.setIfInBounds_toArray, List.set_cons_zero, List.set_cons_succ]
             refine wpAnyH_take (i := 15) (oi := _) (v := ?vB15) rfl (by kernel_rfl) (by kernel_rfl) (by kernel_rfl) (fun _ _ _ h => h) (Or.inl ⟨by kernel_rfl, ?yB15⟩) (by assumption) ?rB15
             case yB15 =>
               intro w hSw
               (try dsimp only at hSw)
               go_simp
               try with_reducible rfl
             try simp only [Act.put, List.setIfInBounds_toArray, List.set_cons_zero, List.set_cons_succ]
             refine wpAnyH_ready (rs := [16]) (by kernel_rfl) (by simp) ?_
             refine AllReadyH.cons (o := _) rfl (fun K hK => ?_) AllReadyH.nil
             rw [if_pos (by kernel_rfl)]
             go_simp
             go_at_call 150
             refine (HK.out _ hb0).mono ?_
             rintro e w4 ⟨rfl, hb⟩
             have u2 := (hb.cell (p := ⟨g, 2, none⟩) hgl3).trans hc3
             have u3 := (hb.cell (p := ⟨g, 3, none⟩) hgl3).trans hc4
             have u4 := (hb.cell (p := ⟨g, 4, none⟩) hgl3).trans hc5
             have u5 := (hb.cell (p := ⟨g, 5, none⟩) hgl3).trans hc6
             have HB4 := hide (hb0.trans hb)
             clear hb
             refine hK.out _ _ ⟨u2, u3, u4, u5⟩ (fun _ => ?_)
             clear hK K
             try simp only [Act.put, List.setIfInBounds_toArray, List.set_cons_zero, List.set_cons_succ]
             refine wpAnyH_take (i := 17) (oi := _) (v := ?vB17) rfl (by kernel_rfl) (by kernel_rfl) (by kernel_rfl) (fun _ _ _ h => h) (Or.inl ⟨by kernel_rfl, ?yB17⟩) (by assumption) ?rB17
             case yB17 =>
               intro w hSw
               (try dsimp only at hSw)
               go_simp
               try with_reducible rfl
             try simp only [Act.put, List.setIfInBounds_toArray, List.set_cons_zero, List.set_cons_succ]
             refine wpAnyH_take (i := 18) (oi := _) (v := ?vB18) rfl (by kernel_rfl) (by kernel_rfl) (by kernel_rfl) (fun _ _ _ h => h) (Or.inl ⟨by kernel_rfl, ?yB18⟩) (by assumption) ?rB18
             case yB18 =>
               intro w hSw
               (try dsimp only at hSw)
               go_simp
               try with_reducible rfl
             try simp only [Act.put, List.setIfInBounds_toArray, List.set_cons_zero, List.set_cons_succ]
             refine wpAnyH_take (i := 19) (oi := _) (v := undef) rfl (by kernel_rfl) (by kernel_rfl) (by kernel_rfl) (fun _ _ _ h => h) (Or.inr ⟨by kernel_rfl, rfl⟩) (by assumption) ?_
             try simp only [Act.put, List.setIfInBounds_toArray, List.set_cons_zero, List.set_cons_succ]
             refine wpAnyH_take (i := 20) (oi := _) (v := undef) rfl (by kernel_rfl) (by kernel_rfl) (by kernel_rfl) (fun _ _ _ h => h) (Or.inr ⟨by kernel_rfl, rfl⟩) (by assumption) ?_
             try simp only [Act.put, List.setIfInBounds_toArray, List.set_cons_zero, List.set_cons_succ]
             refine wpAnyH_take (i := 21) (oi := _) (v := undef) rfl (by kernel_rfl) (by kernel_rfl) (by kernel_rfl) (fun _ _ _ h => h) (Or.inr ⟨by kernel_rfl, rfl⟩) (by assumption) ?_
             try simp only [Act.put, List.setIfInBounds_toArray, List.set_cons_zero, List.set_cons_succ]
             refine wpAnyH_take (i := 22) (oi := _) (v := undef) rfl (by kernel_rfl) (by kernel_rfl) (by kernel_rfl) (fun _ _ _ h => h) (Or.inr ⟨by kernel_rfl, rfl⟩) (by assumption) ?_
             try simp only [Act.put, List.setIfInBounds_toArray, List.set_cons_zero, List.set_cons_succ]
             refine wpAnyH_take (i := 23) (oi := _) (v := undef) rfl (by kernel_rfl) (by kernel_rfl) (by kernel_rfl) (fun _ _ _ h => h) (Or.inr ⟨by kernel_rfl, rfl⟩) (by assumption) ?_
             try simp only [Act.put, List.setIfInBounds_toArray, List.set_cons_zero, List.set_cons_succ]
             refine wpAnyH_take (i := 24) (oi := _) (v := undef) rfl (by kernel_rfl) (by kernel_rfl) (by kernel_rfl) (fun _ _ _ h => h) (Or.inr ⟨by kernel_rfl, rfl⟩) (by assumption) ?_
             try simp only [Act.put, List.setIfInBounds_toArray, List.set_cons_zero, List.set_cons_succ]
             refine wpAnyH_take (i := 25) (oi := _) (v := undef) rfl (by kernel_rfl) (by kernel_rfl) (by kernel_rfl) (fun _ _ _ h => h) (Or.inr ⟨by kernel_rfl, rfl⟩) (by assumption) ?_
             try simp only [Act.put, List.setIfInBounds_toArray, List.set_cons_zero, List.set_cons_succ]
             refine wpAnyH_ready (rs := [26]) (by kernel_rfl) (by simp) ?_
             refine AllReadyH.cons (o := _) rfl (fun K hK => ?_) AllReadyH.nil
             rw [if_pos (by kernel_rfl)]
             go_simp
             refine hK.out _ _ ⟨u2, u3, u4, u5⟩ (fun _ => ?_)
             clear hK K
             try simp only [Act.put, List.setIfInBounds_toArray, List.set_cons_zero, List.set_cons_succ]
             refine wpAnyH_ready (rs := [27]) (by kernel_rfl) (by simp) ?_
             refine AllReadyH.cons (o := _) rfl (fun K hK => ?_) AllReadyH.nil
             rw [if_pos (by kernel_rfl)]
             go_simp
             refine hK.out _ _ ⟨u2, u3, u4, u5⟩ (fun _ => ?_)
             clear hK K
             try simp only [Act.put, List.setIfInBounds_toArray, List.set_cons_zero, List.set_cons_succ]
             refine wpAnyH_done (by kernel_rfl) ?_ _
             have HBW := hide (below_up HB3.out HB4.out HB3.out.size)
             have hd24 := (HB4.out.cell (p := ⟨w.heap.size, 2, none⟩) hdw).trans hd23
             have hd25 := (((Below.refl w4.heap.size w4).alloc (Nat.le_refl _) (.cells #[.string (bs fr)] 9)).cell (p := ⟨w.heap.size, 2, none⟩) (World.block_lt_of_cell? _ _ hd24)).trans hd24
             go_wp2_with fail
             refine (HTAIL.out _ HBW.out).mono ?_
             rintro e w5 ⟨rfl, hf5⟩
             have HF5 := hide (hf5.after (HBW.out.alloc HBW.out.size (.cells #[.string (bs fr)] 9)))
             clear hf5
             go_wp2
             go_ret
             unfold TryP
             rw [HE.out]
             exact ⟨rfl, HF5.out⟩
           have k1' : ¬ ki = 1 := by omega
           have k1a : (ki == 1) = false := by simp only [beq_eq_false_iff_ne]; omega
           have k1b : (ki != 1) = true := by simp only [bne_iff_ne, ne_eq]; omega
           obtain ⟨kn, hkn⟩ : ∃ c, Lib.containsS kl (bs fr) = c := ⟨_, rfl⟩
           have HLK := hide (fun W (hb : Below w3.heap.size w3 W) => (show MSet W b kl from HMS.out.of (hb.block b HMS.out.lt)).look (s := bs fr) (by rw [bs_size]; omega))
           rw [hkn] at HLK H10
           clear hkn hki hkl
           cases kn with
           | true =>
             have HE := hide (H10.out.trans (if_neg (by simp)))
             clear H10 k1
             go_region_held3 (fun w' => w'.cell? ⟨g, 2, none⟩ = some (.pointer (some ⟨C.gf, 0, none⟩)) ∧ w'.cell? ⟨g, 3, none⟩ = some (.string (bs C.cwd)) ∧ w'.cell? ⟨g, 4, none⟩ = some (.string (bs C.target)) ∧ w'.cell? ⟨g, 5, none⟩ = some (.map (some b)))
               (first | exact ⟨hc3, hc4, hc5, hc6⟩ | exact ⟨u2, u3, u4, u5⟩)
               ((go_at_call 150; refine (HK.out _ hb0).mono ?_; rintro e w4 ⟨rfl, hb⟩; have u2 := (hb.cell (p := ⟨g, 2, none⟩) hgl3).trans hc3; have u3 := (hb.cell (p := ⟨g, 3, none⟩) hgl3).trans hc4; have u4 := (hb.cell (p := ⟨g, 4, none⟩) hgl3).trans hc5; have u5 := (hb.cell (p := ⟨g, 5, none⟩) hgl3).trans hc6; have hlk := HLK.out w4 (hb0.trans hb); have HB4 := hide (hb0.trans hb); clear hb))
             have HBW := hide (below_up HB3.out HB4.out HB3.out.size)
             have hd24 := (HB4.out.cell (p := ⟨w.heap.size, 2, none⟩) hdw).trans hd23
             have hd25 := (((Below.refl w4.heap.size w4).alloc (Nat.le_refl _) (.cells #[.string (bs fr)] 9)).cell (p := ⟨w.heap.size, 2, none⟩) (World.block_lt_of_cell? _ _ hd24)).trans hd24
             go_wp2_with fail
             refine (HTAIL.out _ HBW.out).mono ?_
             rintro e w5 ⟨rfl, hf5⟩
             have HF5 := hide (hf5.after (HBW.out.alloc HBW.out.size (.cells #[.string (bs fr)] 9)))
             clear hf5
             go_wp2
             go_ret
             unfold TryP
             rw [HE.out]
             exact ⟨rfl, HF5.out⟩
           | false =>
             have HE := hide (H10.out.trans (if_pos ⟨k1, rfl⟩))
             clear H10 k1
             go_region_held3 (fun w' => w'.cell? ⟨g, 2, none⟩ = some (.pointer (some ⟨C.gf, 0, none⟩)) ∧ w'.cell? ⟨g, 3, none⟩ = some (.string (bs C.cwd)) ∧ w'.cell? ⟨g, 4, none⟩ = some (.string (bs C.target)) ∧ w'.cell? ⟨g, 5, none⟩ = some (.map (some b)))
               (first | exact ⟨hc3, hc4, hc5, hc6⟩ | exact ⟨u2, u3, u4, u5⟩)
               ((go_at_call 150; refine (HK.out _ hb0).mono ?_; rintro e w4 ⟨rfl, hb⟩; have u2 := (hb.cell (p := ⟨g, 2, none⟩) hgl3).trans hc3; have u3 := (hb.cell (p := ⟨g, 3, none⟩) hgl3).trans hc4; have u4 := (hb.cell (p := ⟨g, 4, none⟩) hgl3).trans hc5; have u5 := (hb.cell (p := ⟨g, 5, none⟩) hgl3).trans hc6; have hlk := HLK.out w4 (hb0.trans hb); have HB4 := hide (hb0.trans hb); clear hb))
             go_wp2
             go_ret
             unfold TryP
             rw [HE.out]
             exact ⟨rfl, HH.out.toP (below_up HB3.out HB4.out HB3.out.size)⟩
end
section
open Go.RowKit Go.Deep Go.Maps Ln Pth Vf
attribute [local go_sem] bt_eq
structure CfSz (C : Cf) : Prop where
 rl : ∀ r ∈ C.L, ∀ x ∈ r.tg.2.2, x.size ≤ 10000
 pn : ∀ r ∈ C.L, plainR r.tg.2.2 = false → ∀ x ∈ r.nd.2.2, x.size ≤ 10000
 ss : ∀ s ∈ specialR C.L suffixes, s.size ≤ 10000
 kn : (knownsF C.L).length ≤ 100000
 sp : (specialR C.L suffixes).length ≤ 100000
theorem mem_knowns {L : List Rl} {x : ByteArray} (h : x ∈ knownsF L) : ∃ r ∈ L, x ∈ r.tg.2.2 := by
 unfold knownsF at h
 obtain ⟨r, hr, hx⟩ := List.mem_flatMap.1 h
 refine ⟨r, hr, ?_⟩
 split at hx
 · exact hx
 · cases hx
theorem mem_special {L : List Rl} {name x : ByteArray} (h : x ∈ specialR L name) : ∃ r ∈ L, x ∈ r.nd.2.2 := by
 unfold specialR at h
 obtain ⟨r, hr, hx⟩ := List.mem_flatMap.1 h
 refine ⟨r, hr, ?_⟩
 split at hx
 · exact hx
 · cases hx
theorem knowns_len_take (L : List Rl) (k : Nat) : (knownsF (L.take k)).length ≤ (knownsF L).length := by
 unfold knownsF
 conv => rhs; rw [← List.take_append_drop k L, List.flatMap_append, List.length_append]
 omega
theorem fits_1 {S : St} {cwd target : Ln.T} {L : List Rl} {p q : Pn} (h : firstO (pat1 S cwd (knownsF L) target p) L = some q) : fitsF S cwd L target p = q := by
 unfold fitsF; rw [h]
theorem fits_2 {S : St} {cwd target : Ln.T} {L : List Rl} {p q : Pn} (h1 : firstO (pat1 S cwd (knownsF L) target p) L = none) (h : firstO (suf1 S cwd (knownsF L) target (specialR L suffixes) p) L = some q) : fitsF S cwd L target p = q := by
 unfold fitsF; rw [h1, h]
theorem fits_3 {S : St} {cwd target : Ln.T} {L : List Rl} {p : Pn} (h1 : firstO (pat1 S cwd (knownsF L) target p) L = none) (h : firstO (suf1 S cwd (knownsF L) target (specialR L suffixes) p) L = none) : fitsF S cwd L target p = p := by
 unfold fitsF; rw [h1, h]
theorem firstO_found {α β : Type} (f : α → Option β) (l : List α) (k : Nat) (x : α) (b : β) (h : firstO f (l.take k) = none) (hx : l[k]? = some x) (hf : f x = some b) : firstO f l = some b := by
 rw [firstO_at f l k x h hx, hf]
set_option linter.unusedSimpArgs false in
theorem fits_any (w0 : World) (C : Cf) (g : Nat) (kl0 : List ByteArray) (p : Pn) (T : Nat → Prop) (w : World) (hok : CfOk C w0) (hcs : CfSz C) (h : FI w0 C g none kl0 p T w) (hl : p.needs.length ≤ 700000) :
   Calls Tryz.prog 67 #[.pointer (some ⟨g, 0, none⟩)] w fun e w' => e = .returned (.tuple #[]) ∧ ∃ b, FIP w0 C g (some b) (knownsF C.L) (fitsF C.S C.cwd C.L C.target p) T w w' := by
 have hb0 := h.below
 have hbs : w0.heap.size ≤ w.heap.size := hb0.size
 have HBS := hide hbs
 have HOK := hide (fun W (hb : Below w0.heap.size w0 W) => hok.below hb)
 have HCS := hide hcs
 have HH := hide h
 have HB0 := hide hb0
 have hrl := hok.rl
 have HRL := hide hrl
 have hln := hok.ln
 obtain ⟨A6, c6, A7, c7, hg, _⟩ := h.opn
 have HG := hide hg
 have hgl := (h.tw g h.tg).2
 obtain ⟨n, hn⟩ : ∃ n, C.L.length = n := ⟨_, rfl⟩
 have HN := hide hn
 have hln : n ≤ 1000 := by omega
 have hn1 : (n : Int) ≤ 1000 := by omega
 have hd1 : w.cell? ⟨g, 1, none⟩ = some (.slice C.A n C.c) := by rw [← hn]; exact cellOf hg (j := 1) rfl
 clear hok hcs h hb0 hrl hg hn
 go_enter Tryz.func67, Tryz.ntmps67
 go_wp2
 go_loopw [2, 4, 16] (fun v2 _ v16 wr => ∃ k : Nat, v16 = .int .i64 k ∧ k ≤ n ∧ OwnS wr w.heap.size v2 (knownsF (C.L.take k)) ∧ Below w.heap.size w wr) (fun _ _ v16 _ => n - (intOf v16).toNat)
 case atStart => exact ⟨0, rfl, by omega, OwnS.nil _ _, Below.refl _ _⟩
 case round =>
   obtain ⟨k, rfl, hk, ho, hb⟩ := hrel
   have HO := hide ho
   have HB := hide hb
   have HAR := hide (HRL.out.below (below_up HB0.out hb HBS.out))
   clear ho hb hd1
   by_cases hlt : k < n
   · obtain ⟨r, hr⟩ : ∃ r, C.L[k]? = some r := ⟨C.L[k]'(by have := HN.out; omega), gE _⟩
     obtain ⟨gr, o, hgo, hgg, hc⟩ := HAR.out.1 k r hr
     have hrk := HAR.out.2 r (List.mem_of_getElem? hr)
     have HRK := hide hrk
     have hc1 : wr.cell? ⟨gr, o + k * 3, none⟩ = some (sv r.tg) := by have := hc 0 _ rfl; simpa using this
     have hc2 : wr.cell? ⟨gr, o + k * 3 + 1, none⟩ = some (sv r.nd) := hc 1 _ rfl
     have hc3 : wr.cell? ⟨gr, o + k * 3 + 2, none⟩ = some (sv r.rc) := hc 2 _ rfl
     have HT := hide (knowns_take hr)
     have hlen := knowns_len_take C.L (k + 1)
     have hkn := HCS.out.kn
     rw [HT.out, List.length_append] at hlen
     have HLN := hide hlen
     have b1 : (k : Int) < (n : Int) := by omega
     have hbw : w.heap.size ≤ wr.heap.size := HB.out.size
     rw [hgo]
     clear hc hr hlen hrk
     have HPL := hide (fun W (hb : Below wr.heap.size wr W) => plain_any r W (HRK.out.below hb))
     obtain ⟨p1, hp1⟩ : ∃ b, plainR r.tg.2.2 = b := ⟨_, rfl⟩
     rw [hp1] at HPL HT HLN
     clear hp1
     unfold sv at hc1 hc2 hc3 HPL
     have hnb := heapNew wr (.cells #[.slice r.tg.1 r.tg.2.2.length r.tg.2.1, .slice r.nd.1 r.nd.2.2.length r.nd.2.1, .slice r.rc.1 r.rc.2.2.length r.rc.2.1] 63)
     have hba := (Below.refl wr.heap.size wr).alloc (Nat.le_refl _) (.cells #[.slice r.tg.1 r.tg.2.2.length r.tg.2.1, .slice r.nd.1 r.nd.2.2.length r.nd.2.1, .slice r.rc.1 r.rc.2.2.length r.rc.2.1] 63)
     have HNB := hide hnb
     have HBA := hide hba
     clear hnb hba
     go_wp2_with fail
     refine (HPL.out _ HBA.out).mono ?_
     rintro e w1 ⟨rfl, hb1⟩
     have hk1 := hb1.block wr.heap.size (Array.getElem?_eq_some_iff.1 HNB.out).1
     have hn1' := hk1.trans HNB.out
     have hd0 : w1.cell? ⟨wr.heap.size, 0, none⟩ = some (.slice r.tg.1 r.tg.2.2.length r.tg.2.1) := cellOf' hn1' (j := 0) rfl
     have HB1 := hide (below_up HBA.out hb1 HBA.out.size)
     clear hb1 hk1 hn1'
     cases p1 with
     | false =>
       have HE := hide (show knownsF (C.L.take (k + 1)) = knownsF (C.L.take k) by rw [HT.out, if_neg (by simp), List.append_nil])
       go_wp2
       go_roundw
       case rel => exact ⟨k + 1, by go_num, by omega, by rw [HE.out]; exact HO.out.below' HB1.out, below_up HB.out HB1.out hbw⟩
       case measure => simp [intOf]; omega
     | true =>
       have HE := hide (show knownsF (C.L.take (k + 1)) = knownsF (C.L.take k) ++ r.tg.2.2 by rw [HT.out, if_pos rfl])
       have hl2 : (knownsF (C.L.take k)).length + r.tg.2.2.length ≤ 1000000 := by
         have := HLN.out
         rw [if_pos rfl] at this
         omega
       obtain ⟨v', w4, r4, o4, g4, b4⟩ := run_appS (c := r.tg.2.1) (HO.out.below' HB1.out) (HRK.out.tg.below HB1.out) (by have := HB1.out.size; omega) (by omega)
       have HO4 := hide o4
       have HB4 := hide ((below_up HB.out HB1.out hbw).grown g4 (by have := HB1.out.size; omega) (fun q hq => (World.ownsRow.lt HO.out q hq).1))
       clear o4 g4 b4
       go_wp2_with (at_builtin; refine wpList_app_run ?_ (.tmp 22) (.tmp 24) ?_ ?_ ?_ ?_ r4 ?_; exact rfl; exact rfl; exact rfl; exact rfl; exact rfl)
       go_roundw
       case rel => exact ⟨k + 1, by go_num, by omega, by rw [HE.out]; exact HO4.out, HB4.out⟩
       case measure => simp [intOf]; omega
   · obtain rfl : n = k := by omega
     have HF := hide (show knownsF (C.L.take n) = knownsF C.L by rw [List.take_of_length_le (by have := HN.out; omega)])
     rw [HF.out] at HO
     obtain ⟨Ak, ck, rfl, _, hsk, _⟩ := HO.out.slice
     have HSE := hide (set_any Ak ck (knownsF C.L) wr hsk HCS.out.kn (fun s hs => by
       obtain ⟨r, hr, hx⟩ := mem_knowns hs
       have := HCS.out.rl r hr s hx
       omega))
     obtain ⟨kn, hkn⟩ : ∃ n, (knownsF C.L).length = n := ⟨_, rfl⟩
     rw [hkn] at HSE ⊢
     clear hsk hkn
     go_wp2_with fail
     refine HSE.out.mono ?_
     rintro e w1 ⟨b, rfl, hbk, hms, hb1⟩
     have HBX := hide (below_up HB.out hb1 HB.out.size)
     have hfi := HH.out.step HBX.out
     have hfp := hfi.known_ hms (fun ht => by
       have := (HH.out.tw b ht).2
       have := HB.out.size
       omega)
     obtain ⟨T1, hf1, hkt1, hgt1⟩ := hfp
     have hg1 := (HBX.out.block g hgl).trans HG.out
     have hz5 := freeOf hg1 5
     have hy5 : w1.cell? ⟨g, 5, none⟩ = some (.map none) := cellOf hg1 (j := 5) rfl
     have HF1 := hide hf1
     have HT1 := hide (And.intro hkt1 hgt1)
     obtain ⟨A62, c62, A72, c72, hg2, _⟩ := hf1.opn
     have hy0 := cellOf hg2 (j := 0) (v := C.mac) rfl
     have hy1 := cellOf hg2 (j := 1) (v := .slice C.A n C.c) (by rw [← HN.out]; rfl)
     have HG2 := hide hg2
     have HSP := hide (special_any C.mac C.A C.c C.L suffixes (w1.setCell ⟨g, 5, none⟩ (.map (some b))) (HRL.out.below hf1.below) (by have := HN.out; omega) (fun j => by have := special_len_take C.L suffixes j; have := HCS.out.sp; omega))
     rw [HN.out] at HSP
     clear hfi hf1 hkt1 hgt1 hg1 hg2 hms
     go_wp2_with fail
     refine HSP.out.mono ?_
     rintro e w3 ⟨⟨v5, rfl, hos⟩, hb3⟩
     have hsz3 := hb3.size
     have hf3 := HF1.out.step hb3
     have HF3 := hide hf3
     have HKW := hide (((Kp.of_below HBX.out T).trans (HT1.out.1.mono fun q hq => .inl hq)).trans ((Kp.of_below hb3 (fun k => T k ∨ w.heap.size ≤ k))))
     have HGW := hide (fun q (hq : T1 q) => (HT1.out.2 q hq).imp_right (Nat.le_trans HBX.out.size))
     obtain ⟨As, cs, rfl, _, hss, hbs5⟩ := hos.slice
     have HSL := hide (fun W (hk : Kp w3 W T1) => hk.sr hss (fun a e _ ht => by
       have h1 := (World.ownsRow.lt hos a.block (hbs5 a e)).1
       have h2 := (HF1.out.tw _ ht).2
       omega))
     have hg3 := (hb3.block g (HF1.out.tw g HF1.out.tg).2).trans HG2.out
     have hx1 : w3.cell? ⟨g, 1, none⟩ = some (.slice C.A n C.c) := by rw [← HN.out]; exact cellOf hg3 (j := 1) rfl
     have HSPZ := hide (fun s (hs : s ∈ specialR C.L suffixes) => HCS.out.ss s hs)
     have HFIN := hide (fun W q (hf : FIP w0 C g (some b) (knownsF C.L) q T1 w3 W) => hf.from_ HKW.out HGW.out)
     obtain ⟨sl, hsl⟩ : ∃ l, specialR C.L suffixes = l := ⟨_, rfl⟩
     have hspl := HCS.out.sp
     rw [hsl] at hspl HSPZ HSL ⊢
     have HSLL := hide hsl
     obtain ⟨m, hm⟩ : ∃ m, sl.length = m := ⟨_, rfl⟩
     have HM := hide hm
     rw [hm] at hspl ⊢
     clear hos hb3 hf3 hss hbs5 hg3 hsl hm hy0 hy1 hsz3
     go_wp2
     go_loopw [7, 43] (fun _ v43 wr => ∃ k : Nat, v43 = .int .i64 k ∧ k ≤ n ∧ Hid (firstO (pat1 C.S C.cwd (knownsF C.L) C.target p) (C.L.take k) = none) ∧ FIP w0 C g (some b) (knownsF C.L) p T1 w3 wr) (fun _ v43 _ => n - (intOf v43).toNat)
     case atStart => exact ⟨0, rfl, by omega, rfl, HF3.out.toP (Below.refl _ _)⟩
     case round =>
       obtain ⟨k, rfl, hk, HFN, hfp⟩ := hrel
       have HFP := hide hfp
       clear hfp hx1
       by_cases hlt : k < n
       · obtain ⟨r, hr⟩ : ∃ r, C.L[k]? = some r := ⟨C.L[k]'(by have := HN.out; omega), gE _⟩
         have hrk0 := HRL.out.2 r (List.mem_of_getElem? hr)
         have hrz := HCS.out.rl r (List.mem_of_getElem? hr)
         have HRZ := hide (And.intro hrk0 hrz)
         obtain ⟨T2, f2, k2, g2⟩ := HFP.out
         have HF2 := hide f2
         have HK2 := hide (And.intro k2 g2)
         have HAR := hide (HRL.out.below f2.below)
         have HRK := hide (hrk0.below f2.below)
         obtain ⟨gr, o, hgo, hgg, hc⟩ := HAR.out.1 k r hr
         have hc1 : wr.cell? ⟨gr, o + k * 3, none⟩ = some (sv r.tg) := by have := hc 0 _ rfl; simpa using this
         have hc2 : wr.cell? ⟨gr, o + k * 3 + 1, none⟩ = some (sv r.nd) := hc 1 _ rfl
         have hc3 : wr.cell? ⟨gr, o + k * 3 + 2, none⟩ = some (sv r.rc) := hc 2 _ rfl
         have HSTEP := hide (fun q (hf : pat1 C.S C.cwd (knownsF C.L) C.target p r = some q) => firstO_found _ C.L k r q HFN.out hr hf)
         have HNEXT := hide (fun (hf : pat1 C.S C.cwd (knownsF C.L) C.target p r = none) => firstO_step _ C.L k r HFN.out hr hf)
         have b1 : (k : Int) < (n : Int) := by omega
         rw [hgo]
         have hr0 := hr
         clear hc hr hrk0 hrz f2 k2 g2
         have hnb := heapNew wr (.cells #[.slice r.tg.1 r.tg.2.2.length r.tg.2.1, .slice r.nd.1 r.nd.2.2.length r.nd.2.1, .slice r.rc.1 r.rc.2.2.length r.rc.2.1] 63)
         have hba := (Below.refl wr.heap.size wr).alloc (Nat.le_refl _) (.cells #[.slice r.tg.1 r.tg.2.2.length r.tg.2.1, .slice r.nd.1 r.nd.2.2.length r.nd.2.1, .slice r.rc.1 r.rc.2.2.length r.rc.2.1] 63)
         have HNB := hide hnb
         have HBA := hide hba
         clear hnb hba
         have HPL := hide (fun W (hb : Below wr.heap.size wr W) => plain_any r W (HRK.out.below hb))
         have HPN := hide (HCS.out.pn r (List.mem_of_getElem? hr0))
         have HPA := hide (fun (h1 : plainR r.tg.2.2 = false) W (hb : Below wr.heap.size wr W) => pattern_any w0 C g b (knownsF C.L) p T2 r W (HOK.out W (below_up HF2.out.below hb HF2.out.below.size)) (HF2.out.step hb) HRZ.out.1 ⟨HRZ.out.2, HPN.out h1⟩ hl)
         have hP : pat1 C.S C.cwd (knownsF C.L) C.target p r = if plainR r.tg.2.2 = true then none else if r.rc.2.2.length = 0 then none else patO C.S C.cwd (knownsF C.L) C.target r p := rfl
         obtain ⟨p1, hp1⟩ : ∃ b, plainR r.tg.2.2 = b := ⟨_, rfl⟩
         rw [hp1] at HPL hP HPA
         clear hr0 HPN
         obtain ⟨rq, hrq⟩ : ∃ b, r.rc.2.2.length = b := ⟨_, rfl⟩
         rw [hrq] at hP
         have HPP := hide hP
         unfold sv at hc1 hc2 hc3 HPL HPA
         simp only [hrq] at hc3 HPL HPA HNB HBA
         clear hp1 hP hrq
         go_wp2_with fail
         refine (HPL.out _ HBA.out).mono ?_
         rintro e w4 ⟨rfl, hb4⟩
         have hnb4 := (hb4.block wr.heap.size (Array.getElem?_eq_some_iff.1 HNB.out).1).trans HNB.out
         have hd0 : w4.cell? ⟨wr.heap.size, 0, none⟩ = some (.slice r.tg.1 r.tg.2.2.length r.tg.2.1) := cellOf' hnb4 (j := 0) rfl
         have hd1 : w4.cell? ⟨wr.heap.size, 1, none⟩ = some (.slice r.nd.1 r.nd.2.2.length r.nd.2.1) := cellOf' hnb4 (j := 1) rfl
         have hd2 : w4.cell? ⟨wr.heap.size, 2, none⟩ = some (.slice r.rc.1 rq r.rc.2.1) := cellOf' hnb4 (j := 2) rfl
         have HB4 := hide (below_up HBA.out hb4 HBA.out.size)
         clear hb4 hnb4
         cases p1 with
         | true =>
           have HN1 := hide (HNEXT.out (HPP.out.trans (if_pos rfl)))
           have HF4 := hide (((HF2.out.toP HB4.out)).from_ HK2.out.1 HK2.out.2)
           go_wp2
           go_roundw
           case rel => exact ⟨k + 1, by go_num, by omega, HN1.out, HF4.out⟩
           case measure => simp [intOf]; omega
         | false =>
           have h2 := HPP.out.trans (if_neg (by simp))
           by_cases c2 : rq = 0
           · have HN1 := hide (HNEXT.out (h2.trans (if_pos c2)))
             have HF4 := hide (((HF2.out.toP HB4.out)).from_ HK2.out.1 HK2.out.2)
             have d1 : decide (0 < rq) = false := by simp; omega
             clear c2 h2
             go_wp2
             go_roundw
             case rel => exact ⟨k + 1, by go_num, by omega, HN1.out, HF4.out⟩
             case measure => simp [intOf]; omega
           have h3 := h2.trans (if_neg c2)
           have H3 := hide h3
           have d1 : decide (0 < rq) = true := by simp; omega
           clear c2 h2 h3
           go_wp2_with fail
           refine (HPA.out trivial _ HB4.out).mono ?_
           rintro e w5 ⟨rfl, hf5⟩
           have hf5' := (hf5.after HB4.out).from_ HK2.out.1 HK2.out.2
           clear hf5
           obtain ⟨R, hR⟩ : ∃ R, patO C.S C.cwd (knownsF C.L) C.target r p = R := ⟨_, rfl⟩
           rw [hR] at H3 hf5' ⊢
           clear hR
           cases R with
           | none =>
             have HN1 := hide (HNEXT.out H3.out)
             have HF5 := hide (show FIP w0 C g (some b) (knownsF C.L) p T1 w3 w5 from hf5')
             clear hf5'
             simp only [Option.isSome_none]
             go_wp2
             go_roundw
             case rel => exact ⟨k + 1, by go_num, by omega, HN1.out, HF5.out⟩
             case measure => simp [intOf]; omega
           | some q =>
             have HE := hide (fits_1 (HSTEP.out q H3.out))
             have HF5 := hide (HFIN.out w5 q hf5')
             clear hf5'
             simp only [Option.isSome_some]
             go_wp2
             (try simp only [Exit.inBlock, Exit.then])
             refine bodyPost_ret (results_none rfl _ _ _) rfl ?_
             rw [HE.out]
             exact ⟨rfl, b, HF5.out⟩
       · obtain rfl : n = k := by omega
         have hnone := HFN.out
         rw [List.take_of_length_le (by have := HN.out; omega)] at hnone
         have HNONE := hide hnone
         obtain ⟨T2, f2, k2, g2⟩ := HFP.out
         obtain ⟨_, _, _, _, hg2, _⟩ := f2.opn
         have hx1 : wr.cell? ⟨g, 1, none⟩ = some (.slice C.A n C.c) := by rw [← HN.out]; exact cellOf hg2 (j := 1) rfl
         have HF2 := hide f2
         have HK2 := hide (And.intro k2 g2)
         clear hnone hg2 f2 k2 g2 HFN
         go_wp2
         go_loopw [9, 68] (fun _ v68 wr => ∃ k : Nat, v68 = .int .i64 k ∧ k ≤ n ∧ Hid (firstO (suf1 C.S C.cwd (knownsF C.L) C.target (specialR C.L suffixes) p) (C.L.take k) = none) ∧ FIP w0 C g (some b) (knownsF C.L) p T1 w3 wr) (fun _ v68 _ => n - (intOf v68).toNat)
         case atStart => exact ⟨0, rfl, by omega, rfl, HFP.out⟩
         case round =>
           obtain ⟨k, rfl, hk, HFN, hfp⟩ := hrel
           have HFP := hide hfp
           clear hfp hx1
           by_cases hlt : k < n
           · obtain ⟨r, hr⟩ : ∃ r, C.L[k]? = some r := ⟨C.L[k]'(by have := HN.out; omega), gE _⟩
             have hrk0 := HRL.out.2 r (List.mem_of_getElem? hr)
             have hrz := HCS.out.rl r (List.mem_of_getElem? hr)
             have HRZ := hide (And.intro hrk0 hrz)
             obtain ⟨T2, f2, k2, g2⟩ := HFP.out
             have HF2 := hide f2
             have HK2 := hide (And.intro k2 g2)
             have HAR := hide (HRL.out.below f2.below)
             have HRK := hide (hrk0.below f2.below)
             obtain ⟨gr, o, hgo, hgg, hc⟩ := HAR.out.1 k r hr
             have hc1 : wr.cell? ⟨gr, o + k * 3, none⟩ = some (sv r.tg) := by have := hc 0 _ rfl; simpa using this
             have hc2 : wr.cell? ⟨gr, o + k * 3 + 1, none⟩ = some (sv r.nd) := hc 1 _ rfl
             have hc3 : wr.cell? ⟨gr, o + k * 3 + 2, none⟩ = some (sv r.rc) := hc 2 _ rfl
             have HSTEP := hide (fun q (hf : suf1 C.S C.cwd (knownsF C.L) C.target (specialR C.L suffixes) p r = some q) => firstO_found _ C.L k r q HFN.out hr hf)
             have HNEXT := hide (fun (hf : suf1 C.S C.cwd (knownsF C.L) C.target (specialR C.L suffixes) p r = none) => firstO_step _ C.L k r HFN.out hr hf)
             have b1 : (k : Int) < (n : Int) := by omega
             rw [hgo]
             clear hc hr hrk0 hrz f2 k2 g2
             have hnb := heapNew wr (.cells #[.slice r.tg.1 r.tg.2.2.length r.tg.2.1, .slice r.nd.1 r.nd.2.2.length r.nd.2.1, .slice r.rc.1 r.rc.2.2.length r.rc.2.1] 63)
             have hba := (Below.refl wr.heap.size wr).alloc (Nat.le_refl _) (.cells #[.slice r.tg.1 r.tg.2.2.length r.tg.2.1, .slice r.nd.1 r.nd.2.2.length r.nd.2.1, .slice r.rc.1 r.rc.2.2.length r.rc.2.1] 63)
             have HNB := hide hnb
             have HBA := hide hba
             clear hnb hba
             have HSU := hide (fun W (hb : Below wr.heap.size wr W) => suffix_any w0 C g b (knownsF C.L) p T2 r As cs sl W (HOK.out W (below_up HF2.out.below hb HF2.out.below.size)) (HF2.out.step hb) HRZ.out.1 HRZ.out.2 ((HSL.out wr HK2.out.1).below hb) HSPZ.out (by have := HM.out; omega) hl)
             rw [HM.out] at HSU
             have hP : suf1 C.S C.cwd (knownsF C.L) C.target (specialR C.L suffixes) p r = if r.rc.2.2.length = 0 then none else sufO C.S C.cwd (knownsF C.L) C.target (specialR C.L suffixes) r p := rfl
             rw [HSLL.out] at hP HSTEP HNEXT
             obtain ⟨rq, hrq⟩ : ∃ b, r.rc.2.2.length = b := ⟨_, rfl⟩
             rw [hrq] at hP
             have HPP := hide hP
             unfold sv at hc1 hc2 hc3 HSU
             simp only [hrq] at hc3 HSU HNB HBA
             have hd2 : (wr.alloc (.cells #[.slice r.tg.1 r.tg.2.2.length r.tg.2.1, .slice r.nd.1 r.nd.2.2.length r.nd.2.1, .slice r.rc.1 rq r.rc.2.1] 63)).cell? ⟨wr.heap.size, 2, none⟩ = some (.slice r.rc.1 rq r.rc.2.1) := cellOf' HNB.out (j := 2) rfl
             clear hP hrq
             by_cases c2 : rq = 0
             · have HN1 := hide (HNEXT.out (HPP.out.trans (if_pos c2)))
               have HF4 := hide (((HF2.out.toP HBA.out)).from_ HK2.out.1 HK2.out.2)
               have d1 : decide (0 < rq) = false := by simp; omega
               clear c2
               go_wp2
               go_roundw
               case rel => exact ⟨k + 1, by go_num, by omega, by rw [HSLL.out]; exact HN1.out, HF4.out⟩
               case measure => simp [intOf]; omega
             have H3 := hide (HPP.out.trans (if_neg c2))
             have d1 : decide (0 < rq) = true := by simp; omega
             clear c2
             go_wp2_with fail
             refine (HSU.out _ HBA.out).mono ?_
             rintro e w5 ⟨rfl, hf5⟩
             have hf5' := (hf5.after HBA.out).from_ HK2.out.1 HK2.out.2
             clear hf5
             obtain ⟨R, hR⟩ : ∃ R, sufO C.S C.cwd (knownsF C.L) C.target sl r p = R := ⟨_, rfl⟩
             rw [hR] at H3 hf5' ⊢
             clear hR
             cases R with
             | none =>
               have HN1 := hide (HNEXT.out H3.out)
               have HF5 := hide (show FIP w0 C g (some b) (knownsF C.L) p T1 w3 w5 from hf5')
               clear hf5'
               simp only [Option.isSome_none]
               go_wp2
               go_roundw
               case rel => exact ⟨k + 1, by go_num, by omega, by rw [HSLL.out]; exact HN1.out, HF5.out⟩
               case measure => simp [intOf]; omega
             | some q =>
               have HE := hide (fits_2 HNONE.out (by rw [HSLL.out]; exact HSTEP.out q H3.out))
               have HF5 := hide (HFIN.out w5 q hf5')
               clear hf5'
               simp only [Option.isSome_some]
               go_wp2
               (try simp only [Exit.inBlock, Exit.then])
               refine bodyPost_ret (results_none rfl _ _ _) rfl ?_
               rw [HE.out]
               exact ⟨rfl, b, HF5.out⟩
           · obtain rfl : n = k := by omega
             have hnone := HFN.out
             rw [List.take_of_length_le (by have := HN.out; omega)] at hnone
             have HE := hide (fits_3 HNONE.out hnone)
             have HF5 := hide (HFIN.out wr p HFP.out)
             clear hnone
             go_wp2
             go_end0
             rw [HE.out]
             exact ⟨rfl, b, HF5.out⟩
end
section
open Go.RowKit Go.Deep Go.Maps Ln Pth Vf
attribute [local go_sem] bt_eq
theorem gathers_len {t : ByteArray} (L : List Rl) : ∀ k, (gathersF t (L.take k)).needs.length ≤ (specialR (L.take k) t).length := by
 intro k
 induction k with
 | zero => simp [gathersF, noPn]
 | succ k ih =>
   cases h : L[k]? with
   | none =>
     rw [List.take_add_one, h]
     simpa using ih
   | some r =>
     rw [gathers_take h, special_take h, List.length_append]
     unfold gatherF
     split
     · have := needsF_len r.nd.2.2 (gathersF t (L.take k)).needs
       dsimp only
       omega
     · omega
theorem store4 {w : World} {g : Nat} {t : TypeId} {a0 a1 a2 a3 : Value} (h : w.heap[g]? = some (.cells #[a0, a1, a2, a3] t)) (v0 v1 v2 v3 : Value) :
   (w.cell? ⟨g, 0, none⟩ = some a0 ∧ w.frozen? ⟨g, 0, none⟩ = false ∧
   (w.setCell ⟨g, 0, none⟩ v0).cell? ⟨g, 1, none⟩ = some a1 ∧ (w.setCell ⟨g, 0, none⟩ v0).frozen? ⟨g, 1, none⟩ = false ∧
   ((w.setCell ⟨g, 0, none⟩ v0).setCell ⟨g, 1, none⟩ v1).cell? ⟨g, 2, none⟩ = some a2 ∧ ((w.setCell ⟨g, 0, none⟩ v0).setCell ⟨g, 1, none⟩ v1).frozen? ⟨g, 2, none⟩ = false ∧
   (((w.setCell ⟨g, 0, none⟩ v0).setCell ⟨g, 1, none⟩ v1).setCell ⟨g, 2, none⟩ v2).cell? ⟨g, 3, none⟩ = some a3 ∧ (((w.setCell ⟨g, 0, none⟩ v0).setCell ⟨g, 1, none⟩ v1).setCell ⟨g, 2, none⟩ v2).frozen? ⟨g, 3, none⟩ = false) ∧
   ((((w.setCell ⟨g, 0, none⟩ v0).setCell ⟨g, 1, none⟩ v1).setCell ⟨g, 2, none⟩ v2).setCell ⟨g, 3, none⟩ v3).heap[g]? = some (.cells #[v0, v1, v2, v3] t) ∧
   Kp w ((((w.setCell ⟨g, 0, none⟩ v0).setCell ⟨g, 1, none⟩ v1).setCell ⟨g, 2, none⟩ v2).setCell ⟨g, 3, none⟩ v3) (fun k => k = g) := by
 have h1 : (w.setCell ⟨g, 0, none⟩ v0).heap[g]? = some (.cells #[v0, a1, a2, a3] t) := by rw [heapSet h]; rfl
 have h2 : ((w.setCell ⟨g, 0, none⟩ v0).setCell ⟨g, 1, none⟩ v1).heap[g]? = some (.cells #[v0, v1, a2, a3] t) := by rw [heapSet h1]; rfl
 have h3 : (((w.setCell ⟨g, 0, none⟩ v0).setCell ⟨g, 1, none⟩ v1).setCell ⟨g, 2, none⟩ v2).heap[g]? = some (.cells #[v0, v1, v2, a3] t) := by rw [heapSet h2]; rfl
 have h4 : ((((w.setCell ⟨g, 0, none⟩ v0).setCell ⟨g, 1, none⟩ v1).setCell ⟨g, 2, none⟩ v2).setCell ⟨g, 3, none⟩ v3).heap[g]? = some (.cells #[v0, v1, v2, v3] t) := by rw [heapSet h3]; rfl
 refine ⟨⟨cellOf h (j := 0) rfl, freeOf h 0, cellOf h1 (j := 1) rfl, freeOf h1 1, cellOf h2 (j := 2) rfl, freeOf h2 2, cellOf h3 (j := 3) rfl, freeOf h3 3⟩, h4, ?_⟩
 exact (kp_set.trans ((kp_set.trans ((kp_set.trans (kp_set.mono fun k e => .inl e)).mono fun k e => .inl e)).mono fun k e => .inl e))
def PlanPost (w : World) (q : Pn) (e : Ending) (w' : World) : Prop := ∃ vn vr, e = .returned (.agg #[vn, vr, .string (bs q.stem), .bool q.rule]) ∧ OwnS w' w.heap.size vn q.needs ∧ OwnS w' w.heap.size vr q.recipe ∧ Below w.heap.size w w'
theorem plan_end {w W : World} {C : Cf} {g gp : Nat} {kb : Option Nat} {kl : List ByteArray} {q : Pn} {T : Nat → Prop} (hf : FI w C g kb kl q T W) {a0 a1 a2 a3 : Value} (hgp : W.heap[gp]? = some (.cells #[a0, a1, a2, a3] 49)) (hT : ¬ T gp) (hw : w.heap.size ≤ gp) : ∃ A6 l6 c6 A7 l7 c7,
   (W.cell? ⟨g, 6, none⟩ = some (.slice A6 l6 c6) ∧ W.cell? ⟨g, 7, none⟩ = some (.slice A7 l7 c7) ∧ W.cell? ⟨g, 8, none⟩ = some (.string (bs q.stem)) ∧ W.cell? ⟨g, 9, none⟩ = some (.bool q.rule)) ∧
   (W.cell? ⟨gp, 0, none⟩ = some a0 ∧ W.frozen? ⟨gp, 0, none⟩ = false ∧
   (W.setCell ⟨gp, 0, none⟩ (.slice A6 l6 c6)).cell? ⟨gp, 1, none⟩ = some a1 ∧ (W.setCell ⟨gp, 0, none⟩ (.slice A6 l6 c6)).frozen? ⟨gp, 1, none⟩ = false ∧
   ((W.setCell ⟨gp, 0, none⟩ (.slice A6 l6 c6)).setCell ⟨gp, 1, none⟩ (.slice A7 l7 c7)).cell? ⟨gp, 2, none⟩ = some a2 ∧ ((W.setCell ⟨gp, 0, none⟩ (.slice A6 l6 c6)).setCell ⟨gp, 1, none⟩ (.slice A7 l7 c7)).frozen? ⟨gp, 2, none⟩ = false ∧
   (((W.setCell ⟨gp, 0, none⟩ (.slice A6 l6 c6)).setCell ⟨gp, 1, none⟩ (.slice A7 l7 c7)).setCell ⟨gp, 2, none⟩ (.string (bs q.stem))).cell? ⟨gp, 3, none⟩ = some a3 ∧ (((W.setCell ⟨gp, 0, none⟩ (.slice A6 l6 c6)).setCell ⟨gp, 1, none⟩ (.slice A7 l7 c7)).setCell ⟨gp, 2, none⟩ (.string (bs q.stem))).frozen? ⟨gp, 3, none⟩ = false) ∧
   ((((W.setCell ⟨gp, 0, none⟩ (.slice A6 l6 c6)).setCell ⟨gp, 1, none⟩ (.slice A7 l7 c7)).setCell ⟨gp, 2, none⟩ (.string (bs q.stem))).setCell ⟨gp, 3, none⟩ (.bool q.rule)).heap[gp]? = some (.cells #[(.slice A6 l6 c6), (.slice A7 l7 c7), .string (bs q.stem), .bool q.rule] 49) ∧
   PlanPost w q (.returned (.agg #[(.slice A6 l6 c6), (.slice A7 l7 c7), .string (bs q.stem), .bool q.rule])) ((((W.setCell ⟨gp, 0, none⟩ (.slice A6 l6 c6)).setCell ⟨gp, 1, none⟩ (.slice A7 l7 c7)).setCell ⟨gp, 2, none⟩ (.string (bs q.stem))).setCell ⟨gp, 3, none⟩ (.bool q.rule)) := by
 obtain ⟨vn, vr, h1, h2, h3, h4, h5, h6⟩ := hf.body
 obtain ⟨A6, c6, rfl, _, _, _⟩ := h2.slice
 obtain ⟨A7, c7, rfl, _, _, _⟩ := h5.slice
 obtain ⟨hs, hgf, hkp⟩ := store4 hgp (.slice A6 q.needs.length c6) (.slice A7 q.recipe.length c7) (.string (bs q.stem)) (.bool q.rule)
 refine ⟨A6, _, c6, A7, _, c7, ⟨cellOf h1 (j := 6) rfl, cellOf h1 (j := 7) rfl, cellOf h1 (j := 8) rfl, cellOf h1 (j := 9) rfl⟩, hs, hgf, _, _, rfl, ?_, ?_, hkp.below hf.below (Nat.le_refl _) (fun k e => by omega)⟩
 · exact h2.of fun k e => hkp.block k (World.ownsRow.lt h2 k e).2 (fun e2 => hT (e2 ▸ h4 k e))
 · refine h5.of fun k e => hkp.block k (World.ownsRow.lt h5 k e).2 (fun e2 => ?_)
   obtain ⟨_, h | ⟨g', cap, cur, h, hg', hh, _⟩⟩ := h5
   · rw [h.1] at e
     simp [Value.ownBlock] at e
   · rw [h] at e
     simp only [Value.ownBlock] at e
     injection e with e
     rw [e, e2, hgp] at hh
     injection hh with hh
     injection hh with _ hh
     exact absurd hh (by decide)
theorem ret_plan {a : Act} {W : World} {gp : Nat} {v0 v1 v2 v3 : Value} (hr : W.heap[gp]? = some (.cells #[v0, v1, v2, v3] 49)) (h8 : a.tmps.getD 8 undef = .pointer (some ⟨gp, 0, none⟩)) :
   (results Tryz.f31 a.tmps).run Tryz.prog W = .ok (.agg #[v0, v1, v2, v3]) W := by
 have c0 : W.cell? ⟨gp, 0, none⟩ = some v0 := cellOf hr (j := 0) rfl
 have c1 : W.cell? ⟨gp, 1, none⟩ = some v1 := cellOf hr (j := 1) rfl
 have c2 : W.cell? ⟨gp, 2, none⟩ = some v2 := cellOf hr (j := 2) rfl
 have c3 : W.cell? ⟨gp, 3, none⟩ = some v3 := cellOf hr (j := 3) rfl
 simp only [results, Tryz.results31]
 simp only [Array.getD_eq_getD_getElem?] at h8
 simp [go_sem, h8, c0, c1, c2, c3]
set_option linter.unusedSimpArgs false in
theorem plan_any (C : Cf) (w : World) (hok : CfOk C w) (hcs : CfSz C) (hsn : (specialR C.L (bs C.target)).length ≤ 100000) :
   Calls Tryz.prog 31 #[.agg #[C.mac, .slice C.A C.L.length C.c], .pointer (some ⟨C.gf, 0, none⟩), .string (bs C.cwd), .string (bs C.target)] w (PlanPost w (planF C.S C.cwd C.L C.target)) := by
 have HOK := hide (fun W (hb : Below w.heap.size w W) => hok.below hb)
 have HCS := hide hcs
 have hrl := hok.rl
 have HRL := hide hrl
 have hln := hok.ln
 have HSN := hide hsn
 obtain ⟨n, hn⟩ : ∃ n, C.L.length = n := ⟨_, rfl⟩
 have HN := hide hn
 rw [hn] at hln ⊢
 have hn1 : (n : Int) ≤ 1000 := by omega
 have HIS := hide (fun W => isSpecial_any C.target W (by have := hok.t1; omega))
 have hR : planF C.S C.cwd C.L C.target = if specT C.target = true then noPn else if (gathersF (bs C.target) C.L).recipe = [] then fitsF C.S C.cwd C.L C.target (gathersF (bs C.target) C.L) else gathersF (bs C.target) C.L := rfl
 obtain ⟨R, hRR⟩ : ∃ R, planF C.S C.cwd C.L C.target = R := ⟨_, rfl⟩
 rw [hRR] at hR ⊢
 obtain ⟨sp, hsp⟩ : ∃ q, specT C.target = q := ⟨_, rfl⟩
 rw [hsp] at HIS hR
 have HR := hide hR
 clear hok hcs hrl hn hR hRR hsp hsn
 have hba := ((Below.refl w.heap.size w).alloc (Nat.le_refl _) (.cells #[C.mac, .slice C.A n C.c] 25))
 have hbb := hba.alloc (by simp) (.cells #[.slice none 0 0, .slice none 0 0, .string ⟨#[]⟩, .bool false] 49)
 go_enter Tryz.func31, Tryz.ntmps31
 have HBB := hide hbb
 have HGP := hide (heapNew (w.alloc (.cells #[C.mac, .slice C.A n C.c] 25)) (.cells #[.slice none 0 0, .slice none 0 0, .string ⟨#[]⟩, .bool false] 49))
 go_wp2_with fail
 refine (HIS.out _).mono ?_
 rintro e w1 ⟨rfl, hb1⟩
 have hszp : w.heap.size + 1 < w1.heap.size := by have := hb1.size; simp at this; omega
 have hsz1 : (w.alloc (.cells #[C.mac, .slice C.A n C.c] 25)).heap.size = w.heap.size + 1 := by simp
 have hgp0 := HGP.out
 rw [hsz1] at hgp0
 have hgp := (hb1.block (w.heap.size + 1) (by simp)).trans hgp0
 have hgm := (hb1.block w.heap.size (by simp; omega)).trans (show ((w.alloc (.cells #[C.mac, .slice C.A n C.c] 25)).alloc (.cells #[.slice none 0 0, .slice none 0 0, .string ⟨#[]⟩, .bool false] 49)).heap[w.heap.size]? = some (.cells #[C.mac, .slice C.A n C.c] 25) by
   rw [Below.heap_alloc _ _ _ (by simp)]
   exact heapNew w _)
 have HB1 := hide (below_up HBB.out hb1 HBB.out.size)
 have HGPW := hide hgp
 clear hba hbb hb1 HGP
 cases sp with
 | true =>
   have HE := hide (HR.out.trans (if_pos rfl))
   obtain ⟨⟨q1, q2, q3, q4, q5, q6, q7, q8⟩, hgf, hkp⟩ := store4 hgp (.slice none 0 0) (.slice none 0 0) (.string ⟨#[]⟩) (.bool false)
   have HGF := hide hgf
   have HBF := hide (hkp.below HB1.out (Nat.le_refl _) (fun k e => by omega))
   clear hgf hkp hgp hgm
   go_wp2
   refine bodyPost_ret (ret_plan HGF.out rfl) rfl ?_
   rw [HE.out]
   exact ⟨_, _, rfl, OwnS.nil _ _, OwnS.nil _ _, HBF.out⟩
 | false =>
   have HR2 := hide (HR.out.trans (if_neg (by simp)))
   have hm0 : w1.cell? ⟨w.heap.size, 0, none⟩ = some C.mac := cellOf hgm (j := 0) rfl
   have hm1 : w1.cell? ⟨w.heap.size, 1, none⟩ = some (.slice C.A n C.c) := cellOf hgm (j := 1) rfl
   have hbx := (Below.refl w1.heap.size w1).alloc (Nat.le_refl _) (.cells (fcells C none (.slice none 0 0) (.slice none 0 0) [] false) 110)
   have HFI := hide (show FI w C w1.heap.size none [] noPn (fun k => k = w1.heap.size) (w1.alloc (.cells (fcells C none (.slice none 0 0) (.slice none 0 0) [] false) 110)) from
     ⟨below_up HB1.out hbx HB1.out.size, rfl, fun k e => (by subst e; exact ⟨by omega, by simp⟩), fun b e => (by cases e), .slice none 0 0, .slice none 0 0, heapNew _ _, OwnS.nil _ _, by simp [Value.ownBlock], fun k e => (by simp [Value.ownBlock] at e), OwnS.nil _ _, fun k e => (by simp [Value.ownBlock] at e)⟩)
   have HBX := hide hbx
   have hm2 : (w1.alloc (.cells (fcells C none (.slice none 0 0) (.slice none 0 0) [] false) 110)).cell? ⟨w.heap.size, 1, none⟩ = some (.slice C.A n C.c) := (hbx.cell (p := ⟨w.heap.size, 1, none⟩) (by dsimp only; omega)).trans hm1
   have HFC := hide (show fcells C none (.slice none 0 0) (.slice none 0 0) [] false = #[C.mac, .slice C.A n C.c, .pointer (some ⟨C.gf, 0, none⟩), .string (bs C.cwd), .string (bs C.target), .map none, .slice none 0 0, .slice none 0 0, .string ⟨#[]⟩, .bool false] by rw [← HN.out]; rfl)
   rw [HFC.out] at HFI HBX hm2
   clear hbx hgp hgm
   go_wp2
   obtain ⟨W, hW⟩ : ∃ W, w1.alloc (.cells #[C.mac, .slice C.A n C.c, .pointer (some ⟨C.gf, 0, none⟩), .string (bs C.cwd), .string (bs C.target), .map none, .slice none 0 0, .slice none 0 0, .string ⟨#[]⟩, .bool false] 110) = W := ⟨_, rfl⟩
   rw [hW] at HFI HBX ⊢
   obtain ⟨g, hg⟩ : ∃ g, w1.heap.size = g := ⟨_, rfl⟩
   rw [hg] at HFI HBX ⊢
   have HGG := hide hg
   clear hW hm2 hm0 hm1 hg
   go_loopw [11, 13, 26, 47] (fun _ _ v26 _ wr => ∃ k : Nat, v26 = .int .i64 k ∧ k ≤ n ∧ FIP w C g none [] (gathersF (bs C.target) (C.L.take k)) (fun k => k = g) W wr) (fun _ _ v26 _ _ => n - (intOf v26).toNat)
   case atStart => exact ⟨0, rfl, by omega, HFI.out.toP (Below.refl _ _)⟩
   case round =>
       obtain ⟨k, rfl, hk, hfp⟩ := hrel
       have HFP := hide hfp
       clear hfp
       generalize wr = wo at *
       by_cases hlt : k < n
       · obtain ⟨r, hr⟩ : ∃ r, C.L[k]? = some r := ⟨C.L[k]'(by have := HN.out; omega), gE _⟩
         have hrk0 := HRL.out.2 r (List.mem_of_getElem? hr)
         have HRK0 := hide hrk0
         obtain ⟨T2, f2, k2, g2⟩ := HFP.out
         have HF2 := hide f2
         have HK2 := hide (And.intro k2 g2)
         have HAR := hide (HRL.out.below f2.below)
         have HRK := hide (hrk0.below f2.below)
         obtain ⟨gr, o, hgo, hgg, hc⟩ := HAR.out.1 k r hr
         have hc1 : wo.cell? ⟨gr, o + k * 3, none⟩ = some (sv r.tg) := by have := hc 0 _ rfl; simpa using this
         have hc2 : wo.cell? ⟨gr, o + k * 3 + 1, none⟩ = some (sv r.nd) := hc 1 _ rfl
         have hc3 : wo.cell? ⟨gr, o + k * 3 + 2, none⟩ = some (sv r.rc) := hc 2 _ rfl
         have HT := hide (gathers_take (target := bs C.target) hr)
         have hgl := gathers_len (t := bs C.target) C.L k
         have hsl := special_len_take C.L (bs C.target) k
         have hsn := HSN.out
         have b1 : (k : Int) < (n : Int) := by omega
         have hr1 := hrk0.r1
         have hn1' := hrk0.n1
         rw [hgo]
         have HPL := hide (fun W (hb : Below wo.heap.size wo W) => plain_any r W (HRK.out.below hb))
         have HCT := hide (fun W (hb : Below wo.heap.size wo W) => cont_any r.tg.1 r.tg.2.1 r.tg.2.2 (bs C.target) W (HRK.out.tg.below hb) (by have := HRK.out.t1; omega))
         have hof : ofR (bs C.target) r = (plainR r.tg.2.2 && Lib.containsS r.tg.2.2 (bs C.target)) := rfl
         obtain ⟨p1, hp1⟩ : ∃ b, plainR r.tg.2.2 = b := ⟨_, rfl⟩
         obtain ⟨p2, hp2⟩ : ∃ b, Lib.containsS r.tg.2.2 (bs C.target) = b := ⟨_, rfl⟩
         rw [hp1] at HPL hof
         rw [hp2] at HCT hof
         have HOF := hide hof
         obtain ⟨p, hp⟩ : ∃ p, gathersF (bs C.target) (C.L.take k) = p := ⟨_, rfl⟩
         rw [hp] at HF2 HT hgl
         have hpl : p.needs.length ≤ 100000 := by omega
         have hG : gatherF (bs C.target) p r = if ofR (bs C.target) r = true then ⟨needsF p.needs r.nd.2.2, if 0 < r.rc.2.2.length then r.rc.2.2 else p.recipe, p.stem, true⟩ else p := rfl
         rw [HOF.out] at hG
         have HG := hide hG
         obtain ⟨rq, hrq⟩ : ∃ b, r.rc.2.2.length = b := ⟨_, rfl⟩
         obtain ⟨m, hm⟩ : ∃ b, r.nd.2.2.length = b := ⟨_, rfl⟩
         have HRQ := hide hrq
         have HM := hide hm
         rw [hrq] at hr1 HG
         rw [hm] at hn1'
         have hmi : (m : Int) ≤ 100000 := by omega
         clear hc hr hrk0 f2 k2 g2 hof hp1 hp2 hp hgl hsl hsn hG
         have hnb := heapNew wo (.cells #[.slice r.tg.1 r.tg.2.2.length r.tg.2.1, .slice r.nd.1 m r.nd.2.1, .slice r.rc.1 rq r.rc.2.1] 63)
         have hba := (Below.refl wo.heap.size wo).alloc (Nat.le_refl _) (.cells #[.slice r.tg.1 r.tg.2.2.length r.tg.2.1, .slice r.nd.1 m r.nd.2.1, .slice r.rc.1 rq r.rc.2.1] 63)
         have HNB := hide hnb
         have HBA := hide hba
         unfold sv at hc1 hc2 hc3 HPL
         rw [hrq] at hc3
         rw [hm] at hc2
         simp only [hrq, hm] at HPL
         clear hnb hba hrq hm
         go_wp2_with fail
         refine (HPL.out _ HBA.out).mono ?_
         rintro e w4 ⟨rfl, hb4⟩
         have hnb4 := (hb4.block wo.heap.size (Array.getElem?_eq_some_iff.1 HNB.out).1).trans HNB.out
         have hszw : wo.heap.size < w4.heap.size := by have := hb4.size; simp at this; omega
         have HNB4 := hide hnb4
         have hd0 : w4.cell? ⟨wo.heap.size, 0, none⟩ = some (.slice r.tg.1 r.tg.2.2.length r.tg.2.1) := cellOf' hnb4 (j := 0) rfl
         have hd1 : w4.cell? ⟨wo.heap.size, 1, none⟩ = some (.slice r.nd.1 m r.nd.2.1) := cellOf' hnb4 (j := 1) rfl
         have hd2 : w4.cell? ⟨wo.heap.size, 2, none⟩ = some (.slice r.rc.1 rq r.rc.2.1) := cellOf' hnb4 (j := 2) rfl
         have HB4 := hide (below_up HBA.out hb4 HBA.out.size)
         clear hb4 hnb4
         cases p1 with
         | false =>
           have HE := hide (show gathersF (bs C.target) (C.L.take (k + 1)) = p by rw [HT.out, HG.out]; simp)
           have HF4 := hide (((HF2.out.toP HB4.out)).from_ HK2.out.1 HK2.out.2)
           go_wp2
           go_roundw
           case rel => exact ⟨k + 1, by go_num, by omega, by rw [HE.out]; exact HF4.out⟩
           case measure => simp [intOf]; omega
         | true =>
           go_wp2_with fail
           refine (HCT.out _ HB4.out).mono ?_
           rintro e w' ⟨rfl, rfl⟩
           cases p2 with
           | false =>
             have HE := hide (show gathersF (bs C.target) (C.L.take (k + 1)) = p by rw [HT.out, HG.out]; simp)
             have HF4 := hide (((HF2.out.toP HB4.out)).from_ HK2.out.1 HK2.out.2)
             go_wp2
             go_roundw
             case rel => exact ⟨k + 1, by go_num, by omega, by rw [HE.out]; exact HF4.out⟩
             case measure => simp [intOf]; omega
           | true =>
             have hG2 := HG.out
             rw [if_pos (show (true && true) = true from rfl)] at hG2
             have HG2 := hide hG2
             have hf4 := HF2.out.step HB4.out
             have hr4 := hf4.rule_ true
             obtain ⟨T3, f3, k3, g3⟩ := hr4
             obtain ⟨vn, vr, hgc, _⟩ := hf4.body
             have hz9 := freeOf hgc 9
             have hy9 : w4.cell? ⟨g, 9, none⟩ = some (.bool p.rule) := cellOf hgc (j := 9) rfl
             have HF3 := hide f3
             have HK3 := hide (And.intro k3 g3)
             have hne : ¬ T2 wo.heap.size := fun ht => by have := (HF2.out.tw _ ht).2; omega
             have hnb5 := (k3.block wo.heap.size hszw hne).trans HNB4.out
             have HNE := hide (show ¬ T3 wo.heap.size from fun ht => by
               rcases g3 _ ht with h | h
               · exact hne h
               · omega)
             have hd1' : (w4.setCell ⟨g, 9, none⟩ (.bool true)).cell? ⟨wo.heap.size, 1, none⟩ = some (.slice r.nd.1 m r.nd.2.1) := cellOf' hnb5 (j := 1) rfl
             have HNB5 := hide hnb5
             have HN3 := hide (HRK.out.nd.below HB4.out)
             clear hf4 f3 k3 g3 hgc hG2 hne hnb5
             go_wp2
             obtain ⟨W5, hW5⟩ : ∃ W, w4.setCell ⟨g, 9, none⟩ (.bool true) = W := ⟨_, rfl⟩
             rw [hW5] at HF3 HK3 HNB5 ⊢
             clear hW5 hd1' hd0 hd1 hd2 hz9 hy9
             go_loopw [13, 47] (fun _ v47 wr2 => ∃ j : Nat, v47 = .int .i64 j ∧ j ≤ m ∧ FIP w C g none [] (addN { p with rule := true } (r.nd.2.2.take j)) T3 W5 wr2) (fun _ v47 _ => m - (intOf v47).toNat)
             case atStart => exact ⟨0, rfl, by omega, HF3.out.toP (Below.refl _ _)⟩
             case round =>
               obtain ⟨j, rfl, hj, hfp2⟩ := hrel
               have HFP2 := hide hfp2
               clear hfp2
               generalize wr = wz at *
               obtain ⟨T4, f4, k4, g4⟩ := HFP2.out
               have HF4 := hide f4
               have HK4 := hide (And.intro k4 g4)
               have HNR := hide (HRK0.out.nd.below f4.below)
               have HRR := hide (HRK0.out.rc.below f4.below)
               have hnb6 := (k4.block wo.heap.size (Nat.lt_of_lt_of_le hszw HK3.out.1.size) HNE.out).trans HNB5.out
               have hd2' : wz.cell? ⟨wo.heap.size, 2, none⟩ = some (.slice r.rc.1 rq r.rc.2.1) := cellOf' hnb6 (j := 2) rfl
               clear f4 k4 g4 hnb6
               by_cases hlt2 : j < m
               · obtain ⟨x, hx⟩ : ∃ x, r.nd.2.2[j]? = some x := ⟨r.nd.2.2[j]'(by have := HM.out; omega), gE _⟩
                 obtain ⟨gs2, o2, hgo2, hgs2, hcx⟩ := HNR.out j x hx
                 have hql : (addN { p with rule := true } (r.nd.2.2.take j)).needs.length ≤ 900000 := by
                   have := needsF_len (r.nd.2.2.take j) p.needs
                   rw [List.length_take] at this
                   show (needsF p.needs (r.nd.2.2.take j)).length ≤ _
                   omega
                 have HND := hide (need_any w C g none [] _ T4 x wz HF4.out hql)
                 have HE := hide (show ({ addN { p with rule := true } (r.nd.2.2.take j) with needs := needF (addN { p with rule := true } (r.nd.2.2.take j)).needs x } : Pn) = addN { p with rule := true } (r.nd.2.2.take (j + 1)) by
                   unfold addN
                   rw [needsF_take hx])
                 rw [HE.out] at HND
                 have b2 : (j : Int) < (m : Int) := by omega
                 rw [hgo2]
                 clear hx hql
                 go_wp2_with fail
                 refine HND.out.mono ?_
                 rintro e w6 ⟨rfl, h6⟩
                 have HF6 := hide (h6.from_ HK4.out.1 HK4.out.2)
                 clear h6
                 go_wp2
                 go_roundw
                 case rel => exact ⟨j + 1, by go_num, by omega, HF6.out⟩
                 case measure => simp [intOf]; omega
               · obtain rfl : m = j := by omega
                 have htk : r.nd.2.2.take m = r.nd.2.2 := List.take_of_length_le (by have := HM.out; omega)
                 rw [htk] at HF4
                 by_cases c2 : rq = 0
                 · have HE := hide (show gathersF (bs C.target) (C.L.take (k + 1)) = addN { p with rule := true } r.nd.2.2 by
                     rw [HT.out, HG2.out, if_neg (by omega)]
                     rfl)
                   have HF7 := hide (((((HF4.out.toP (Below.refl _ _)).from_ HK4.out.1 HK4.out.2).from_ HK3.out.1 HK3.out.2).after HB4.out).from_ HK2.out.1 HK2.out.2)
                   have d1 : decide (0 < rq) = false := by simp; omega
                   clear c2 htk
                   go_wp2
                   go_roundw
                   case rel => exact ⟨k + 1, by go_num, by omega, by rw [HE.out]; exact HF7.out⟩
                   case measure => simp [intOf]; omega
                 have HE := hide (show gathersF (bs C.target) (C.L.take (k + 1)) = { addN { p with rule := true } r.nd.2.2 with recipe := r.rc.2.2 } by
                   rw [HT.out, HG2.out, if_pos (by omega)]
                   rfl)
                 have d1 : decide (0 < rq) = true := by simp; omega
                 have HCL := hide (sclone_any r.rc.1 r.rc.2.1 r.rc.2.2 wz HRR.out (by have := HRQ.out; omega))
                 rw [HRQ.out] at HCL
                 clear c2 htk
                 go_wp2_with fail
                 refine HCL.out.mono ?_
                 rintro e w6 ⟨⟨v6, rfl, ho6⟩, hb6⟩
                 obtain ⟨Av6, cv6, e6, _, _, _⟩ := ho6.slice
                 rw [HRQ.out] at e6
                 subst e6
                 have hf6 := HF4.out.step hb6
                 have hbs6 := HF4.out.below.size
                 have hr6 := hf6.rec_ (ho6.base hbs6) (fun q hq ht => by have := (World.ownsRow.lt ho6 q hq).1; have := (HF4.out.tw q ht).2; omega)
                 obtain ⟨vn6, vr6, hg6, _⟩ := hf6.body
                 have hz7 := freeOf hg6 7
                 have hy7 := cellOf hg6 (j := 7) rfl
                 have HF7 := hide (((((hr6.after hb6).from_ HK4.out.1 HK4.out.2).from_ HK3.out.1 HK3.out.2).after HB4.out).from_ HK2.out.1 HK2.out.2)
                 clear hf6 hr6 ho6 hb6 hg6
                 go_wp2
                 go_roundw
                 case rel => exact ⟨k + 1, by go_num, by omega, by rw [HE.out]; exact HF7.out⟩
                 case measure => simp [intOf]; omega
       · obtain rfl : n = k := by omega
         have htk : C.L.take n = C.L := List.take_of_length_le (by have := HN.out; omega)
         rw [htk] at HFP
         obtain ⟨q, hq⟩ : ∃ q, gathersF (bs C.target) C.L = q := ⟨_, rfl⟩
         have hgl := gathers_len (t := bs C.target) C.L n
         rw [htk] at hgl
         rw [hq] at HFP HR2 hgl
         have hsn := HSN.out
         have hql : q.needs.length ≤ 700000 := by omega
         obtain ⟨T2, f2, k2, g2⟩ := HFP.out
         have HF2 := hide f2
         obtain ⟨A6, c6, A7, c7, hgc, _⟩ := f2.opn
         have hy7 : wo.cell? ⟨g, 7, none⟩ = some (.slice A7 q.recipe.length c7) := cellOf hgc (j := 7) rfl
         have hszg := HGG.out
         have hszW := HBX.out.size
         have hgpo := (k2.block (w.heap.size + 1) (by omega) (by omega)).trans ((HBX.out.block (w.heap.size + 1) (by omega)).trans HGPW.out)
         have hT2 : ¬ T2 (w.heap.size + 1) := fun ht => by
           rcases g2 _ ht with h | h
           · omega
           · omega
         have hszo := k2.size
         have HGPO := hide hgpo
         obtain ⟨rl, hrl⟩ : ∃ l, q.recipe.length = l := ⟨_, rfl⟩
         rw [hrl] at hy7
         by_cases c1 : rl = 0
         · subst c1
           have hq0 : q.recipe = [] := List.eq_nil_of_length_eq_zero hrl
           have HE := hide (HR2.out.trans (if_pos hq0))
           have HFT := hide (fits_any w C g [] q T2 wo (HOK.out w (Below.refl _ _)) HCS.out HF2.out hql)
           clear hq0 hrl hgpo hgc f2 k2 g2 hq htk
           go_wp2_with fail
           refine HFT.out.mono ?_
           rintro e w5 ⟨rfl, b5, T5, f5, k5, g5⟩
           have hT5 : ¬ T5 (w.heap.size + 1) := fun ht => by
             rcases g5 _ ht with h | h
             · exact hT2 h
             · omega
           have hgp5 := (k5.block (w.heap.size + 1) (by omega) hT2).trans HGPO.out
           obtain ⟨A8, l8, c8, A9, l9, c9, ⟨e6, e7, e8, e9⟩, ⟨q1, q2, q3, q4, q5, q6, q7, q8⟩, hgf, hpost⟩ := plan_end f5 hgp5 hT5 (by omega)
           have HGF := hide hgf
           have HPO := hide hpost
           clear hgf hpost
           clear f5 k5 g5 hgp5
           go_wp2
           (try simp only [Exit.inBlock, Exit.then])
           refine bodyPost_ret (ret_plan HGF.out rfl) rfl ?_
           rw [HE.out]
           exact HPO.out
         have HE := hide (HR2.out.trans (if_neg (fun h => c1 (by rw [← hrl, h]; rfl))))
         have d1 : ((rl : Int) == 0) = false := by simp only [beq_eq_false_iff_ne]; omega
         obtain ⟨A8, l8, c8, A9, l9, c9, ⟨e6, e7, e8, e9⟩, ⟨q1, q2, q3, q4, q5, q6, q7, q8⟩, hgf, hpost⟩ := plan_end HF2.out HGPO.out hT2 (by omega)
         have HGF := hide hgf
         have HPO := hide hpost
         clear hgf hpost
         rw [e7] at hy7
         cases hy7
         clear hgpo hgc f2 k2 g2 hq htk hrl c1
         go_wp2
         (try simp only [Exit.inBlock, Exit.then])
         refine bodyPost_ret (ret_plan HGF.out rfl) rfl ?_
         rw [HE.out]
         exact HPO.out
end
end Go.Proofs.YtaajofojbhdgaaaGreatDoor
namespace Go.Proofs
open Go.Shelf
def Tryz.grow111_ren : Go.Shelf.Ren := ⟨fun | 4 => 111 | n => n, fun | 22 => 66 | 25 => 5 | 3 => 3 | 4 => 4 | 9 => 9 | 20 => 20 | 0 => 0 | n => n, fun | n => n⟩
theorem Tryz.grow111 : Go.Proofs.Lays8.n4 Tryz.prog Tryz.grow111_ren := {
 mixed := by kernel_rfl
 f4 := ⟨Tryz.f111.name, by decide, Tryz.func111.trans (congrArg some (by kernel_rfl))⟩
 t0 := Tryz.underlying0
 a0 := Tryz.isAgg0
 z0 := Tryz.sizeOf0
 v0 := Tryz.zeroValue0
 t3 := Tryz.underlying3
 a3 := Tryz.isAgg3
 z3 := Tryz.sizeOf3
 v3 := Tryz.zeroValue3
 t4 := Tryz.underlying4
 a4 := Tryz.isAgg4
 z4 := Tryz.sizeOf4
 v4 := Tryz.zeroValue4
 t9 := Tryz.underlying9
 a9 := Tryz.isAgg9
 z9 := Tryz.sizeOf9
 v9 := Tryz.zeroValue9
 t20 := Tryz.underlying20
 a20 := Tryz.isAgg20
 z20 := Tryz.sizeOf20
 v20 := Tryz.zeroValue20
 t22 := Tryz.underlying66
 a22 := Tryz.isAgg66
 z22 := Tryz.sizeOf66
 v22 := Tryz.zeroValue66 }
end Go.Proofs
namespace Go.Proofs.YtaajofojbhdgaaaGreatDoor
section
open Go.RowKit Go.Deep
abbrev BRow := Option Addr × Nat × List UInt8
def SLB (w : World) (B : Option Addr) (L : List BRow) : Prop := ∀ (k : Nat) (x : BRow), L[k]? = some x → ∃ g o, B = some ⟨g, o, none⟩ ∧ g < w.heap.size ∧ w.cell? ⟨g, o + k, none⟩ = some (.slice x.1 x.2.2.length x.2.1) ∧ RG encB 1 w x.1 x.2.2
theorem SLB.below {w w' : World} {B : Option Addr} {L : List BRow} (h : SLB w B L) (hb : Below w.heap.size w w') : SLB w' B L := fun k x hx => by
 obtain ⟨g, o, e, hg, hc, hr⟩ := h k x hx
 exact ⟨g, o, e, Nat.lt_of_lt_of_le hg hb.size, (hb.cell (p := ⟨g, o + k, none⟩) hg).trans hc, hr.below hb⟩
theorem zeros_len (n : Nat) : (Builtin.zeroCells #[Value.int .u8 0] n).size = n := by
 unfold Builtin.zeroCells
 simp
theorem grow_any (n : Nat) (w : World) (hn : n ≤ 10000000) :
   Calls Tryz.prog 111 #[.slice none 0 0, .int .i64 n] w fun e w' => ∃ v, e = .returned v ∧ OwnG encB 1 5 w' w.heap.size v [] ∧ Below w.heap.size w w' := by
 by_cases h : n = 0
 · subst h
   refine (Any8.slices_Grow_room Tryz.grow111 none 0 0 0 w (by omega) (by omega) (by omega) (by omega)).mono ?_
   rintro e w' ⟨rfl, rfl⟩
   exact ⟨_, rfl, OwnG.nil _ _, Below.refl _ _⟩
 · obtain ⟨i0, hi, hz0, hz1, hz2⟩ := info_parts (rowB.info)
   have := Any8.slices_Grow_grow Tryz.grow111 i0 (.int .u8 0) hi hz0 (by rw [hz1]; omega) none 0 0 n [] w (by omega) (by omega) (by rw [hz2]; show (0 + n) * 1 ≤ _; omega) (by omega) (by simp) (fun _ => rfl) (fun a e => by cases e)
   refine this.mono ?_
   rintro e w' ⟨rfl, rfl⟩
   have g1 := grownCap_ge w (0 + n) 0 (Tryz.grow111_ren.t 25)
   have g2 := grownCap_le_maxLen w (0 + n) 0 (Tryz.grow111_ren.t 25) (by unfold maxLen; omega)
   refine ⟨_, rfl, ⟨rfl, .inr ⟨w.heap.size, _, _, rfl, Nat.le_refl _, heapNewC _ _, by simp, g2, ?_, by simp [valsG]⟩⟩, (Below.refl _ _).drew.alloc (Nat.le_refl _) _⟩
   show (#[] ++ Builtin.zeroCells #[Value.int .u8 0] (0 + n - 0) ++ Builtin.zeroCells #[Value.int .u8 0] (grownCap w (0 + n) 0 (Tryz.grow111_ren.t 25) - (0 + n))).size = _
   rw [Array.size_append, Array.size_append, zeros_len, zeros_len]
   simp only [List.size_toArray, List.length_nil]
   omega
where
 heapNewC (w : World) (o : Obj) : (w.alloc o).heap[w.heap.size]? = some o := by
   show (w.heap.push o)[w.heap.size]? = some o
   simp
def sumB (L : List BRow) : Nat := (L.map fun x => x.2.2.length).sum
def catB (L : List BRow) : List UInt8 := L.flatMap fun x => x.2.2
theorem sumB_take {L : List BRow} {k : Nat} {x : BRow} (h : L[k]? = some x) : sumB (L.take (k + 1)) = sumB (L.take k) + x.2.2.length := by
 unfold sumB
 rw [List.take_add_one, h]
 simp
theorem catB_take {L : List BRow} {k : Nat} {x : BRow} (h : L[k]? = some x) : catB (L.take (k + 1)) = catB (L.take k) ++ x.2.2 := by
 unfold catB
 rw [List.take_add_one, h]
 simp
theorem sumB_le (L : List BRow) (k : Nat) : sumB (L.take k) ≤ sumB L := by
 unfold sumB
 rw [List.map_take]
 conv => rhs; rw [← List.take_append_drop k (L.map _), List.sum_append]
 omega
theorem catB_len (L : List BRow) : (catB L).length = sumB L := by
 unfold catB sumB
 induction L with
 | nil => rfl
 | cons x L ih => simp [ih]
theorem concat_any (B : Option Addr) (c : Nat) (L : List BRow) (w : World) (hA : SLB w B L) (hl : L.length ≤ 1000) (hs : sumB L ≤ 900000) :
   Calls Tryz.prog 72 #[.slice B L.length c] w fun e w' => (∃ v, e = .returned v ∧ OwnG encB 1 5 w' w.heap.size v (catB L)) ∧ Below w.heap.size w w' := by
 have HA := hide hA
 clear hA
 obtain ⟨n, hn⟩ : ∃ n, L.length = n := ⟨_, rfl⟩
 have HN := hide hn
 rw [hn] at hl ⊢
 clear hn
 have hn1 : (n : Int) ≤ 1000 := by omega
 go_enter Tryz.func72, Tryz.ntmps72
 go_wp2
 go_loop [3, 5, 11] (fun v3 _ v11 => ∃ k s : Nat, v11 = .int .i64 k ∧ k ≤ n ∧ v3 = .int .i64 s ∧ Hid (s = sumB (L.take k)) ∧ s ≤ 900000) (fun _ _ v11 => n - (intOf v11).toNat)
 case atStart => exact ⟨0, 0, rfl, by omega, rfl, rfl, by omega⟩
 case round =>
   obtain ⟨k, s, rfl, hk, rfl, HS, hs2⟩ := hrel
   by_cases hlt : k < n
   · obtain ⟨x, hx⟩ : ∃ x, L[k]? = some x := ⟨L[k]'(by have := HN.out; omega), gE _⟩
     obtain ⟨g, o, rfl, hg, hc, hr⟩ := HA.out k x hx
     have HT := hide (sumB_take hx)
     have hle := sumB_le L (k + 1)
     rw [HT.out, ← HS.out] at hle
     have b1 : (k : Int) < (n : Int) := by omega
     obtain ⟨m, hm⟩ : ∃ m, x.2.2.length = m := ⟨_, rfl⟩
     rw [hm] at hc hle HT
     clear hx hr hm
     have b2 : (s : Int) ≤ 900000 := by omega
     have b3 : (m : Int) ≤ 900000 := by omega
     go_wp2
     go_round
     case rel => exact ⟨k + 1, s + m, by go_num, by omega, by go_num, show s + m = sumB (L.take (k + 1)) by rw [HT.out, ← HS.out], by omega⟩
     case measure => simp [intOf]; omega
   · obtain rfl : k = n := by omega
     have HS3 := hide (show s = sumB L by rw [HS.out, List.take_of_length_le (by have := HN.out; omega)])
     have HG := hide (grow_any s w (by omega))
     clear HS
     go_wp2_with fail
     refine HG.out.mono ?_
     rintro e w1 ⟨v, rfl, ho, hb⟩
     have HO1 := hide ho
     have HB1 := hide hb
     clear ho hb
     go_wp2
     go_loopw [6, 8, 27] (fun v6 _ v27 wr => ∃ j : Nat, v27 = .int .i64 j ∧ j ≤ k ∧ OwnG encB 1 5 wr w.heap.size v6 (catB (L.take j)) ∧ Below w.heap.size w wr) (fun _ _ v27 _ => k - (intOf v27).toNat)
     case atStart => exact ⟨0, rfl, by omega, HO1.out, HB1.out⟩
     case round =>
       obtain ⟨j, rfl, hj, ho, hb⟩ := hrel
       have HO := hide ho
       have HB := hide hb
       have HAR := hide (HA.out.below hb)
       clear ho hb
       by_cases hlt2 : j < k
       · obtain ⟨x, hx⟩ : ∃ x, L[j]? = some x := ⟨L[j]'(by have := HN.out; omega), gE _⟩
         obtain ⟨g, o, rfl, hg, hc, hr⟩ := HAR.out j x hx
         have hbw : w.heap.size ≤ wr.heap.size := HB.out.size
         have hlen : (catB (L.take j)).length + x.2.2.length ≤ 1000000 := by
           have h1 := sumB_take hx
           have h2 := sumB_le L (j + 1)
           rw [catB_len]
           omega
         obtain ⟨v', w4, r4, o4, g4, b4⟩ := run_appY (c := x.2.1) HO.out hr hbw hlen
         have HO4 := hide o4
         have HT := hide (catB_take hx)
         have HB4 := hide (HB.out.trans ((Below.refl w.heap.size _).grown g4 hbw (fun q hq => (HO.out.lt q hq).1)))
         have b1 : (j : Int) < (k : Int) := by omega
         clear o4 g4 b4 hx hr
         go_wp2_with (at_builtin; refine wpList_app_run ?_ (.tmp 31) (.tmp 32) ?_ ?_ ?_ ?_ r4 ?_; exact rfl; exact rfl; exact rfl; exact rfl; exact rfl)
         go_roundw
         case rel => exact ⟨j + 1, by go_num, by omega, by rw [HT.out]; exact HO4.out, HB4.out⟩
         case measure => simp [intOf]; omega
       · obtain rfl : j = k := by omega
         have HF := hide (show catB (L.take j) = catB L by rw [List.take_of_length_le (by have := HN.out; omega)])
         rw [HF.out] at HO
         go_wp2
         go_ret
         exact ⟨⟨_, rfl, HO.out⟩, HB.out⟩
end
section
open Go.RowKit Go.Deep Go.Maps Ln Pth Vf
attribute [local go_sem] bt_eq fld0 fld1 fld2 mkMap
def FsPost (g : Nat) (r : St × Nat) (T N : Nat → Prop) (w : World) (e : Ending) (w' : World) : Prop := e = .returned (.int .i64 r.2) ∧ ∃ N', VS g r.1 T N' w' ∧ GrowN w w' T N T N' ∧ Kp w w' T
theorem VS.stay {g : Nat} {S : St} {T N : Nat → Prop} {w w' : World} (h : VS g S T N w) (ok : OkTN T N w) (hb : Below w.heap.size w w') : VS g S T N w' ∧ OkTN T N w' :=
 ⟨VS.fr g S T N N w w' h (fun k hk => hb.block k (hk.elim (fun h => (ok.1 k h).1) (ok.2 k))) (fun _ h => h) hb.size, (GrowN.refl ok hb.size).2.2.2⟩
theorem FsPost.stay {g : Nat} {S : St} {n : Nat} {T N : Nat → Prop} {w w' : World} (h : VS g S T N w) (ok : OkTN T N w) (hb : Below w.heap.size w w') : FsPost g (S, n) T N w (.returned (.int .i64 n)) w' :=
 ⟨rfl, N, (h.stay ok hb).1, GrowN.refl ok hb.size, Kp.of_below hb T⟩
theorem VS.used {g : Nat} {S : St} {T N : Nat → Prop} {w : World} (h : VS g S T N w) (ok : OkTN T N w) (u : Nat) (hk : Kp w (w.setCell ⟨g, 3, none⟩ (.int .i64 u)) (fun k => k = g)) : VS g { S with used := u } T N (w.setCell ⟨g, 3, none⟩ (.int .i64 u)) ∧ OkTN T N (w.setCell ⟨g, 3, none⟩ (.int .i64 u)) := by
 obtain ⟨b, P, h1, h2, hgb, hg, hm, hsm, hx⟩ := h
 refine ⟨⟨b, P, h1, h2, hgb, heapSet hg _, hm.of (hk.block b (ok.1 b h2).1 (fun e => hgb e.symm)), hsm, fun x hx' => ⟨(hx x hx').1.of hk.size (fun a ea hlt => hk.block a.block hlt (fun e => (ok.1 g h1).2 (by rw [← e]; exact (hx x hx').2 a ea))), (hx x hx').2⟩⟩, (GrowN.refl ok hk.size).2.2.2⟩
theorem kpSet (w : World) (g j : Nat) (v : Value) : Kp w (w.setCell ⟨g, j, none⟩ v) (fun k => k = g) :=
 ⟨rfl, rfl, rfl, by simp, fun k _ hne => Below.heap_setCell _ _ _ _ (by simpa using hne)⟩
theorem node_at {g : Nat} {S : St} {w : World} (h : Hs (VS g S) w) (q : T) (hq : q.length ≤ 100000) : ∃ (b : Nat) (db : Bool) (A : Option Addr) (c tm : Nat), w.cell? ⟨g, 0, none⟩ = some (.map (some b)) ∧
   (Instr.lookup 97 (.map (some b)) (.string (bs q)) false).run Tryz.prog w = .ok (.agg #[.bool db, .slice A (dataM S.m q).length c, .int .i64 tm]) w ∧ RG encB 1 w A (dataM S.m q) ∧ tm = timeM S.m q ∧ (∀ n, getG S.m (bs q) = some n → db = n.dir) := by
 obtain ⟨b, P, hgb, hg, hm, hS, hx⟩ := VS.opn h
 have hlk := nlook1 hm (s := bs q) (by rw [bs_size]; omega)
 unfold dataM timeM
 rw [hS, strip_get]
 cases hgp : getG P (bs q) with
 | none =>
   rw [hgp] at hlk
   exact ⟨b, false, none, 0, 0, cellOf hg (j := 0) rfl, hlk, RG.nil _ _, rfl, fun n hn => by cases hn⟩
 | some e =>
   rw [hgp] at hlk
   exact ⟨b, e.nd.dir, e.A, e.c, e.nd.time, cellOf hg (j := 0) rfl, hlk, hx _ (getG_mem hgp), rfl, fun n hn => by injection hn with hn; rw [← hn]⟩
theorem rg_set {w : World} {g : Nat} {mb : Option Nat} {a b c d : Int} {t : TypeId} (hg : w.heap[g]? = some (.cells #[.map mb, .int .i64 a, .int .i64 b, .int .i64 c, .int .i64 d] t)) {A : Option Addr} {D : List UInt8} (h : RG encB 1 w A D) (j : Nat) (v : Value) : RG encB 1 (w.setCell ⟨g, j, none⟩ v) A D := by
 intro k x hk
 obtain ⟨g', o, e, hlt, hc⟩ := h k x hk
 refine ⟨g', o, e, by simpa using hlt, fun i u hu => ?_⟩
 have h1 := hc i u hu
 by_cases e2 : g' = g
 · subst e2
   exfalso
   cases i with
   | succ i => simp [encB] at hu
   | zero =>
     have hu2 : u = .int .u8 x.toNat := by simpa [encB] using hu.symm
     subst hu2
     unfold World.cell? at h1
     simp only [hg] at h1
     generalize o + k * 1 + 0 = z at h1
     match z, h1 with
     | 0, h1 => simp at h1
     | 1, h1 => simp at h1
     | 2, h1 => simp at h1
     | 3, h1 => simp at h1
     | 4, h1 => simp at h1
     | z + 5, h1 => simp at h1
 · exact (World.cell?_of_block (a := ⟨g', o + k * 1 + i, none⟩) (Below.heap_setCell _ _ _ _ (by simpa using e2))).trans h1
theorem slb_two (w : World) {A1 A2 : Option Addr} {c1 c2 : Nat} {D1 D2 : List UInt8} (h1 : RG encB 1 w A1 D1) (h2 : RG encB 1 w A2 D2) (t : TypeId) :
   SLB (w.alloc (.cells #[.slice A1 D1.length c1, .slice A2 D2.length c2] t)) (some ⟨w.heap.size, 0, none⟩) [(A1, c1, D1), (A2, c2, D2)] := by
 have hb : Below w.heap.size w (w.alloc (.cells #[.slice A1 D1.length c1, .slice A2 D2.length c2] t)) := (Below.refl _ _).alloc (Nat.le_refl _) _
 have hn := heapNew w (.cells #[.slice A1 D1.length c1, .slice A2 D2.length c2] t)
 intro k x hk
 match k, hk with
 | 0, hk =>
   simp at hk
   subst hk
   exact ⟨_, _, rfl, by simp, cellOf hn rfl, h1.below hb⟩
 | 1, hk =>
   simp at hk
   subst hk
   exact ⟨_, _, rfl, by simp, cellOf hn rfl, h2.below hb⟩
 | k + 2, hk => simp at hk
theorem room_int (g : Nat) (S : St) (hS : WfS S) (nodes grows : Int) (w : World) (h : Hs (VS g S) w) (h0 : 0 ≤ nodes) (hn : nodes ≤ 10) (h1 : -4000000 ≤ grows) (h2 : grows ≤ 4000000) :
   Calls Tryz.prog 70 #[.pointer (some ⟨g, 0, none⟩), .int .i64 nodes, .int .i64 grows] w fun e w' => e = .returned (.bool (decide ((S.m.length : Int) + nodes ≤ S.nodes ∧ (S.used : Int) + grows ≤ (S.bytes : Int)))) ∧ Drew w w' := by
 obtain ⟨k, rfl⟩ := Int.eq_ofNat_of_zero_le h0
 have := room_any g S hS k grows w h (by omega) h1 h2
 rwa [show decide ((S.m.length + k : Nat) ≤ S.nodes ∧ (S.used : Int) + grows ≤ (S.bytes : Int)) = decide ((S.m.length : Int) + (k : Int) ≤ S.nodes ∧ (S.used : Int) + grows ≤ (S.bytes : Int)) from decide_eq_decide.2 (by omega)] at this
def moreN (N : Nat → Prop) (A : Option Addr) (k : Nat) : Prop := N k ∨ ∃ a, A = some a ∧ k = a.block
theorem VS.more {g : Nat} {S : St} {T N : Nat → Prop} {w w' : World} (h : VS g S T N w) (ok : OkTN T N w) (hb : Below w.heap.size w w') {A : Option Addr} (hn : ∀ a, A = some a → w.heap.size ≤ a.block ∧ a.block < w'.heap.size) :
   VS g S T (moreN N A) w' ∧ GrowN w w' T N T (moreN N A) := by
 have hs := hb.size
 refine ⟨VS.fr g S T N _ w w' h (fun k hk => hb.block k (hk.elim (fun h => (ok.1 k h).1) (ok.2 k))) (fun k h => .inl h) hs, fun k h => .inl h, fun k h => .inl h, ?_, ?_, ?_⟩
 · rintro k (h | ⟨a, e, rfl⟩)
   · exact .inl h
   · exact .inr (hn a e).1
 · intro k hk
   refine ⟨Nat.lt_of_lt_of_le (ok.1 k hk).1 hs, ?_⟩
   rintro (h | ⟨a, e, rfl⟩)
   · exact (ok.1 k hk).2 h
   · have := (hn a e).1; have := (ok.1 _ hk).1; omega
 · rintro k (h | ⟨a, e, rfl⟩)
   · exact Nat.lt_of_lt_of_le (ok.2 k h) hs
   · exact (hn a e).2
theorem concat_two (g : Nat) (A1 A2 : Option Addr) (c1 c2 : Nat) (D1 D2 : List UInt8) (w : World) (h : SLB w (some ⟨g, 0, none⟩) [(A1, c1, D1), (A2, c2, D2)]) (h1 : D1.length ≤ 400000) (h2 : D2.length ≤ 400000) :
   Calls Tryz.prog 72 #[.slice (some ⟨g, 0, none⟩) 2 2] w fun e w' => (∃ A c, e = .returned (.slice A (D1 ++ D2).length c) ∧ RG encB 1 w' A (D1 ++ D2) ∧ ∀ a, A = some a → w.heap.size ≤ a.block ∧ a.block < w'.heap.size) ∧ Below w.heap.size w w' := by
 have hc : catB [(A1, c1, D1), (A2, c2, D2)] = D1 ++ D2 := by simp [catB]
 have := concat_any (some ⟨g, 0, none⟩) 2 [(A1, c1, D1), (A2, c2, D2)] w h (by simp) (by simp [sumB]; omega)
 rw [hc] at this
 refine this.mono ?_
 rintro e w' ⟨⟨v, rfl, ho⟩, hb⟩
 obtain ⟨A, c, rfl, _, hr, ha, _⟩ := ho.slice encB_len
 exact ⟨⟨A, c, rfl, hr, fun a e => ho.lt _ (ha a e)⟩, hb⟩
theorem write_any (g : Nat) (S : St) (p b : T) (more : Bool) (A : Option Addr) (c : Nat) (T N : Nat → Prop) (w : World) (h : VS g S T N w) (ok : OkTN T N w) (hS : WfS S) (hm : MX w) (hp : p.length ≤ 50000) (hby : S.bytes ≤ 400000) (hbl : b.length ≤ 400000) (hck : S.clock ≤ 1000000000) (hr : RG encB 1 w A b) :
   Calls Tryz.prog 33 #[.pointer (some ⟨g, 0, none⟩), .string (bs p), .slice A b.length c, .bool more] w (FsPost g (writeS S p b more) T N w) := by
 have HH : Hs (VS g S) w := ⟨T, N, h, ok⟩
 have HA := hide (vabs_any g S p w HH hm hp)
 have hl := absS_len S p
 have hR : writeS S p b more = if (absS S p).2 ≠ 0 then (S, (absS S p).2) else writeQ S (absS S p).1 b more := rfl
 unfold AbsPost at HA
 obtain ⟨q, hq⟩ : ∃ q, (absS S p).1 = q := ⟨_, rfl⟩
 obtain ⟨e, he⟩ : ∃ q, (absS S p).2 = q := ⟨_, rfl⟩
 rw [hq] at HA hR hl
 rw [he] at HA hR
 have HR := hide hR
 have H := hide h
 have OK := hide ok
 have HRG := hide hr
 have HWF := hide hS
 have HHS := hide HH
 have d2 := dataM_len hS q
 have u1 := hS.bytes
 obtain ⟨n, hn⟩ : ∃ n, b.length = n := ⟨_, rfl⟩
 have HN := hide hn
 rw [hn] at hbl ⊢
 clear hR he h ok hr hS HH hn hq hm
 by_cases c1 : e = 0
 case neg =>
   obtain ⟨t1, t2⟩ := ne0 c1
   have HE := hide (show writeS S p b more = (S, e) by rw [HR.out, if_pos c1])
   clear c1
   go_enter Tryz.func33, Tryz.ntmps33
   go_wp2_with fail
   refine HA.out.mono ?_
   rintro e w1 ⟨rfl, hb⟩
   have HB := hide hb
   clear hb
   go_wp2
   go_ret
   rw [HE.out]
   exact FsPost.stay H.out OK.out HB.out
 subst c1
 have hRQ := HR.out
 rw [if_neg (by simp)] at hRQ
 unfold writeQ at hRQ
 have HK := hide (fun W (hb : Below w.heap.size w W) => kind_any g S q W (HHS.out.below (VS.fr g S) hb) (by omega))
 obtain ⟨kk, hkk⟩ : ∃ y, kindM S.m q = y := ⟨_, rfl⟩
 rw [hkk] at HK hRQ
 by_cases k2 : kk = 2
 · subst k2
   have HE := hide (show writeS S p b more = (S, 10) by rw [hRQ]; rfl)
   clear hRQ hkk
   go_enter Tryz.func33, Tryz.ntmps33
   go_wp2_with fail
   refine HA.out.mono ?_
   rintro e w1 ⟨rfl, hb⟩
   have HB := hide hb
   clear hb
   go_wp2_with fail
   refine (HK.out w1 HB.out).mono ?_
   rintro e w2 ⟨rfl, hb⟩
   have HB2 := hide (below_up HB.out hb HB.out.size)
   clear hb
   go_wp2
   go_ret
   rw [HE.out]
   exact FsPost.stay H.out OK.out HB2.out
 have k2' : ((kk : Int) == 2) = false := by simp; omega
 rw [if_neg k2] at hRQ
 simp only at hRQ
 obtain ⟨m, hmm⟩ : ∃ n, (dataM S.m q).length = n := ⟨_, rfl⟩
 rw [hmm] at hRQ d2
 obtain ⟨nd, hnd⟩ : ∃ nd : Nat, (if kk = 0 then 1 else 0) = nd := ⟨_, rfl⟩
 obtain ⟨was, hwas⟩ : ∃ x, (if more = true then dataM S.m q else []) = x := ⟨_, rfl⟩
 rw [hnd, hwas] at hRQ
 have HRQ := hide hRQ
 have HMM := hide hmm
 clear hRQ hkk k2 hmm
 have hbl1 : (n : Int) ≤ 400000 := by omega
 have hm1 : (m : Int) ≤ 400000 := by omega
 go_enter Tryz.func33, Tryz.ntmps33
 go_wp2_with fail
 refine HA.out.mono ?_
 rintro e w1 ⟨rfl, hb⟩
 have HB := hide hb
 clear hb
 go_wp2_with fail
 refine (HK.out w1 HB.out).mono ?_
 rintro e w2 ⟨rfl, hb⟩
 have HB2 := hide (below_up HB.out hb HB.out.size)
 clear hb
 obtain ⟨bm, db, A0, c0, tm, hc0, hlk, hr0, _, _⟩ := node_at (HHS.out.below (VS.fr g S) HB2.out) q (by omega)
 rw [HMM.out] at hlk
 have HR0 := hide hr0
 clear hr0
 have HWAS := hide hwas
 have HND := hide hnd
 clear hnd hwas
 by_cases k0 : kk = 0
 all_goals
   first
     | (subst k0
        have hnd : nd = 1 := by rw [← HND.out]; rfl)
     | (have k0' : ((kk : Int) == 0) = false := by simp; omega
        have hnd : nd = 0 := by rw [← HND.out, if_neg k0])
   cases more
 all_goals
   have hwl := congrArg List.length HWAS.out
   first
     | rw [if_pos rfl, HMM.out] at hwl
     | (rw [if_neg (by simp)] at hwl
        simp only [List.length_nil] at hwl)
   have HROOM := hide (show ∀ (W : World) (hb : Below w.heap.size w W) (nodes grows : Int) (h1 : nodes = nd) (h2 : grows = (was.length : Int) + n - m), Calls Tryz.prog 70 #[.pointer (some ⟨g, 0, none⟩), .int .i64 nodes, .int .i64 grows] W fun e w' => ∃ rb, e = .returned (.bool rb) ∧ (rb = true ↔ (S.m.length + nd ≤ S.nodes ∧ S.used + (was.length + b.length) ≤ S.bytes + m)) ∧ Drew W w' from by
     intro W hb nodes grows h1 h2
     refine (room_int g S HWF.out nodes grows W (HHS.out.below (VS.fr g S) hb) (by omega) (by omega) (by omega) (by omega)).mono ?_
     rintro e w' ⟨rfl, h⟩
     refine ⟨_, rfl, ?_, h⟩
     rw [decide_eq_true_iff]
     have := HN.out
     omega)
   have HND2 := hide hnd
   have HWL := hide hwl
   clear hnd hwl
   go_wp2_with fail
   refine Calls.mono (HROOM.out _ HB2.out _ _ ?h1 ?h2) ?_
   case h1 => have := HND2.out; omega
   case h2 => have := HWL.out; omega
   rintro e w3 ⟨rb, rfl, hrb, hd3⟩
   have HB3 := hide (below_up HB2.out hd3.below HB2.out.size)
   have HRB := hide hrb
   have HD3 := hide hd3
   clear hd3 hrb
   cases rb with
   | false =>
     have HE := hide (HRQ.out.trans (if_neg (fun h => by have := HRB.out.2 h; cases this)))
     go_wp2
     go_ret
     rw [HE.out]
     exact FsPost.stay H.out OK.out HB3.out
   | true =>
     obtain ⟨hv3, ok3⟩ := H.out.stay OK.out HB3.out
     have HV3 := hide hv3
     have OK3 := hide ok3
     obtain ⟨b3, P3, _, _, _, hg3, _⟩ := hv3
     have hc3 := cellOf hg3 (j := 3) rfl
     have hf3 := freeOf hg3 3
     have hgl := World.block_lt_of_cell? _ _ hc3
     clear ok3
     have hg3' := hg3
     have HG3 := hide hg3
     clear hg3
     have hbb := HN.out
     obtain ⟨u, hu⟩ : ∃ u, S.used + (was.length + b.length) - m = u := ⟨_, rfl⟩
     have HU := hide hu
     have HRA := hide (rg_set hg3' (HRG.out.below HB3.out) 3 (.int .i64 (u : Int)))
     have hr03 := HR0.out.drew HD3.out
     have HRO := hide (rg_set hg3' hr03 3 (.int .i64 (u : Int)))
     have hcond := HRB.out.1 rfl
     have huz : u ≤ 400000 := by omega
     have HE := hide (HRQ.out.trans (if_pos hcond))
     rw [hu] at HE
     have humi : (u : Int) = (S.used : Int) + (was.length + n) - m := by omega
     have HUM := hide humi
     clear hg3' hr03 hbb hcond hu humi
     go_wp2_with fail
     first
       | (have hw : was = [] := by have h := HWAS.out; simp at h; first | exact h | exact h.symm
          subst hw
          have HSL := hide (slb_two (w3.setCell ⟨g, 3, none⟩ (.int .i64 (u : Int))) (A1 := none) (c1 := 0) (D1 := []) (c2 := c) (RG.nil _ _) HRA.out 66)
          rw [show (S.used : Int) + ((n : Int) - (m : Int)) = (u : Int) by have := HUM.out; simp only [List.length_nil] at this; omega])
       | (have hw : was = dataM S.m q := by have h := HWAS.out; simp at h; exact h.symm
          have HSL := hide (slb_two (w3.setCell ⟨g, 3, none⟩ (.int .i64 (u : Int))) (c1 := c0) (c2 := c) HRO.out HRA.out 66)
          rw [← hw, ← HWL.out] at HSL
          clear hw
          rw [show (S.used : Int) + (n : Int) = (u : Int) by have := HUM.out; have := HWL.out; omega])
     all_goals
       rw [HN.out] at HSL
       have hsz4 : (w3.setCell ⟨g, 3, none⟩ (.int .i64 (u : Int))).heap.size = w3.heap.size := by simp
       rw [hsz4] at HSL
       obtain ⟨hv4, ok4⟩ := VS.used HV3.out OK3.out u (kpSet w3 g 3 (.int .i64 (u : Int)))
       have hk4 : Kp w (w3.setCell ⟨g, 3, none⟩ (.int .i64 (u : Int))) T := (Kp.of_below HB3.out T).trans ((kpSet w3 g 3 (.int .i64 (u : Int))).mono (fun k e => by subst e; exact .inl (by obtain ⟨_, _, h1, _⟩ := H.out; exact h1)))
       have HV4 := hide hv4
       have OK4 := hide ok4
       have HK4 := hide hk4
       clear hv4 ok4 hk4
       generalize hW4 : (World.setCell w3 ⟨g, 3, none⟩ (.int .i64 (u : Int))).alloc _ = W4 at HSL ⊢
       have hb4 : Below (World.setCell w3 ⟨g, 3, none⟩ (.int .i64 (u : Int))).heap.size (World.setCell w3 ⟨g, 3, none⟩ (.int .i64 (u : Int))) W4 := by rw [← hW4]; exact (Below.refl _ _).alloc (Nat.le_refl _) _
       have HB4 := hide hb4
       clear hb4 hW4
       have HCC := hide (concat_two w3.heap.size _ _ _ _ _ _ W4 HSL.out (by first | (simp; done) | (have := HWL.out; omega)) (by have := HN.out; omega))
       generalize hD5 : _ ++ b = D5 at HCC
       have HD5 := hide hD5
       obtain ⟨n5, hn5'⟩ : ∃ n, D5.length = n := ⟨_, rfl⟩
       rw [hn5'] at HCC
       have HN5' := hide hn5'
       clear hD5 hn5'
       go_wp2_with fail
       refine HCC.out.mono ?_
       rintro e w5 ⟨⟨A5, c5, rfl, hr5, hn5⟩, hb5⟩
       have HR5 := hide hr5
       have HN5 := hide hn5
       have HB5 := hide (below_up HB4.out hb5 HB4.out.size)
       clear hr5 hn5 hb5 HCC HSL
       obtain ⟨hv5, hgr5⟩ := HV4.out.more OK4.out HB5.out (A := A5) (fun a e => ⟨Nat.le_trans HB4.out.size (HN5.out a e).1, (HN5.out a e).2⟩)
       have HP := put_any g { S with used := u } q ⟨A5, c5, ⟨false, D5, 0⟩⟩ T _ w5 hv5 hgr5.2.2.2 HWF.out.rise (by show S.m.length ≤ 100000; have := HWF.out.nodes; have := HWF.out.n10; omega) (by omega) hck HR5.out (fun a e => .inr ⟨a, e, rfl⟩)
       unfold encN at HP
       simp only at HP
       rw [show ((0 : Nat) : Int) = 0 from rfl, HN5'.out] at HP
       have HPP := hide HP
       have HGR := hide hgr5
       clear HP hv5 hgr5
       go_wp2_with fail
       have h9 := HPP.out
       with_reducible refine Calls.mono h9 ?_
       rintro e w6 ⟨rfl, hv6, hk6⟩
       have HV6 := hide hv6
       have HK6 := hide hk6
       clear hv6 hk6
       go_wp2
       go_ret
       rw [HE.out, HD5.out]
       refine ⟨rfl, _, HV6.out, ?_, ?_⟩
       · have g1 := HGR.out
         have s1 := HK4.out.size
         have s2 := HK6.out.size
         exact ⟨fun k h => .inl h, g1.2.1, fun k h => (g1.2.2.1 k h).imp_right (fun h => Nat.le_trans s1 h), fun k hk => ⟨Nat.lt_of_lt_of_le (g1.2.2.2.1 k hk).1 s2, (g1.2.2.2.1 k hk).2⟩, fun k hk => Nat.lt_of_lt_of_le (g1.2.2.2.2 k hk) s2⟩
       · exact (HK4.out.trans (Kp.of_below HB5.out _)).trans (HK6.out.mono (fun k h => .inl h))
end
section
open Go.RowKit Go.Deep Go.Maps Ln Pth Vf
attribute [local go_sem] bt_eq fld0 fld1 fld2 mkMap
theorem FsPost.later {g : Nat} {r : St × Nat} {T N : Nat → Prop} {w w1 w' : World} {e : Ending} (hb : Below w.heap.size w w1) (h : FsPost g r T N w1 e w') : FsPost g r T N w e w' := by
 obtain ⟨h1, N', hv, ⟨g1, g2, g3, g4⟩, hk⟩ := h
 have hs := hb.size
 exact ⟨h1, N', hv, ⟨fun k h => .inl h, g2, fun k h => (g3 k h).imp_right (Nat.le_trans hs), g4⟩, (Kp.of_below hb T).trans (hk.mono (fun k h => .inl h))⟩
theorem node_in {g : Nat} {S : St} {T N : Nat → Prop} {w : World} (h : VS g S T N w) (q : List UInt8) (n : Nd) (hn : getG S.m (bs q) = some n) (hq : q.length ≤ 100000) : ∃ (b : Nat) (e : En), e.nd = n ∧ w.cell? ⟨g, 0, none⟩ = some (.map (some b)) ∧
   (Instr.lookup 97 (.map (some b)) (.string (bs q)) false).run Tryz.prog w = .ok (encN e) w ∧ RG encB 1 w e.A e.nd.data ∧ ∀ a, e.A = some a → N a.block := by
 obtain ⟨b, P, h1, h2, hgb, hg, hm, hS, hx⟩ := h
 have hlk := nlook1 hm (s := bs q) (by rw [bs_size]; omega)
 rw [hS, strip_get] at hn
 cases hgp : getG P (bs q) with
 | none => rw [hgp] at hn; cases hn
 | some e =>
   rw [hgp] at hn hlk
   injection hn with hn
   exact ⟨b, e, hn, cellOf hg (j := 0) rfl, hlk, hx _ (getG_mem hgp)⟩
theorem mkdir_any (g : Nat) (S : St) (p : T) (T N : Nat → Prop) (w : World) (h : VS g S T N w) (ok : OkTN T N w) (hS : WfS S) (hm : MX w) (hp : p.length ≤ 50000) (hck : S.clock ≤ 1000000000) :
   Calls Tryz.prog 55 #[.pointer (some ⟨g, 0, none⟩), .string (bs p)] w (FsPost g (mkdirS S p) T N w) := by
 have HH : Hs (VS g S) w := ⟨T, N, h, ok⟩
 have HA := hide (vabs_any g S p w HH hm hp)
 have hl := absS_len S p
 have hR : mkdirS S p = if (absS S p).2 ≠ 0 then (S, (absS S p).2) else if kindM S.m (absS S p).1 ≠ 0 then (S, 12) else if S.m.length + 1 ≤ S.nodes ∧ S.used ≤ S.bytes then (Vf.putS S (absS S p).1 true [], 0) else (S, 13) := rfl
 unfold AbsPost at HA
 obtain ⟨q, hq⟩ : ∃ q, (absS S p).1 = q := ⟨_, rfl⟩
 obtain ⟨e, he⟩ : ∃ q, (absS S p).2 = q := ⟨_, rfl⟩
 rw [hq] at HA hR hl
 rw [he] at HA hR
 have HK := hide (fun W (hb : Below w.heap.size w W) => kind_any g S q W (HH.below (VS.fr g S) hb) (by omega))
 have HROOM := hide (fun W (hb : Below w.heap.size w W) => room_int g S hS 1 0 W (HH.below (VS.fr g S) hb) (by omega) (by omega) (by omega) (by omega))
 obtain ⟨kk, hkk⟩ : ∃ y, kindM S.m q = y := ⟨_, rfl⟩
 rw [hkk] at HK hR
 have HR := hide hR
 have H := hide h
 have OK := hide ok
 have HWF := hide hS
 clear hR he h ok hS HH hq hm hkk
 by_cases c1 : e = 0
 case neg =>
   obtain ⟨t1, t2⟩ := ne0 c1
   have HE := hide (HR.out.trans (if_pos c1))
   clear c1
   go_enter Tryz.func55, Tryz.ntmps55
   go_wp2_with fail
   refine HA.out.mono ?_
   rintro e w1 ⟨rfl, hb⟩
   have HB := hide hb
   clear hb
   go_wp2
   go_ret
   rw [HE.out]
   exact FsPost.stay H.out OK.out HB.out
 subst c1
 have hRQ := HR.out.trans (if_neg (by simp))
 by_cases k0 : kk = 0
 case neg =>
   obtain ⟨t1, t2⟩ := ne0 k0
   have HE := hide (hRQ.trans (if_pos k0))
   clear k0 hRQ
   go_enter Tryz.func55, Tryz.ntmps55
   go_wp2_with fail
   refine HA.out.mono ?_
   rintro e w1 ⟨rfl, hb⟩
   have HB := hide hb
   clear hb
   go_wp2_with fail
   refine (HK.out w1 HB.out).mono ?_
   rintro e w2 ⟨rfl, hb⟩
   have HB2 := hide (below_up HB.out hb HB.out.size)
   clear hb
   go_wp2
   go_ret
   rw [HE.out]
   exact FsPost.stay H.out OK.out HB2.out
 subst k0
 have HRQ := hide (hRQ.trans (if_neg (by simp)))
 clear hRQ
 go_enter Tryz.func55, Tryz.ntmps55
 go_wp2_with fail
 refine HA.out.mono ?_
 rintro e w1 ⟨rfl, hb⟩
 have HB := hide hb
 clear hb
 go_wp2_with fail
 refine (HK.out w1 HB.out).mono ?_
 rintro e w2 ⟨rfl, hb⟩
 have HB2 := hide (below_up HB.out hb HB.out.size)
 clear hb
 go_wp2_with fail
 refine (HROOM.out w2 HB2.out).mono ?_
 rintro e w3 ⟨rfl, hd⟩
 have HB3 := hide (below_up HB2.out hd.below HB2.out.size)
 clear hd
 obtain ⟨rb, hrb⟩ : ∃ rb, decide ((S.m.length : Int) + 1 ≤ S.nodes ∧ (S.used : Int) + 0 ≤ (S.bytes : Int)) = rb := ⟨_, rfl⟩
 rw [hrb]
 have HRB := hide (show rb = true ↔ (S.m.length + 1 ≤ S.nodes ∧ S.used ≤ S.bytes) by rw [← hrb, decide_eq_true_iff]; omega)
 clear hrb
 cases rb with
 | false =>
   have HE := hide (HRQ.out.trans (if_neg (fun h => by have := HRB.out.2 h; cases this)))
   go_wp2
   go_ret
   rw [HE.out]
   exact FsPost.stay H.out OK.out HB3.out
 | true =>
   have HE := hide (HRQ.out.trans (if_pos (HRB.out.1 rfl)))
   obtain ⟨hv3, ok3⟩ := H.out.stay OK.out HB3.out
   have HP := put_any g S q ⟨none, 0, ⟨true, [], 0⟩⟩ T N w3 hv3 ok3 HWF.out.rise (by have := HWF.out.nodes; have := HWF.out.n10; omega) (by omega) hck (RG.nil _ _) (fun a e => by cases e)
   unfold encN at HP
   simp only [List.length_nil] at HP
   rw [show ((0 : Nat) : Int) = 0 from rfl] at HP
   have HPP := hide HP
   have OK3 := hide ok3
   clear HP hv3 ok3
   go_wp2_with fail
   refine HPP.out.mono ?_
   rintro e w6 ⟨rfl, hv6, hk6⟩
   have HV6 := hide hv6
   have HK6 := hide hk6
   clear hv6 hk6
   go_wp2
   go_ret
   rw [HE.out]
   exact ⟨rfl, N, HV6.out, GrowN.refl OK.out (Nat.le_trans HB3.out.size HK6.out.size), (Kp.of_below HB3.out T).trans (HK6.out.mono (fun k h => .inl h))⟩
theorem touch_any (g : Nat) (S : St) (p : T) (T N : Nat → Prop) (w : World) (h : VS g S T N w) (ok : OkTN T N w) (hS : WfS S) (hm : MX w) (hp : p.length ≤ 50000) (hby : S.bytes ≤ 400000) (hck : S.clock ≤ 1000000000) :
   Calls Tryz.prog 59 #[.pointer (some ⟨g, 0, none⟩), .string (bs p)] w (FsPost g (touchS S p) T N w) := by
 have HH : Hs (VS g S) w := ⟨T, N, h, ok⟩
 have HA := hide (vabs_any g S p w HH hm hp)
 have hl := absS_len S p
 have hR : touchS S p = if (absS S p).2 ≠ 0 then (S, (absS S p).2) else if (absS S p).1 = [47] then (S, 0) else match getG S.m (bs (absS S p).1) with
   | none => writeS S p [] false
   | some n => (Vf.putS S (absS S p).1 n.dir n.data, 0) := rfl
 unfold AbsPost at HA
 obtain ⟨q, hq⟩ : ∃ q, (absS S p).1 = q := ⟨_, rfl⟩
 obtain ⟨e, he⟩ : ∃ q, (absS S p).2 = q := ⟨_, rfl⟩
 rw [hq] at HA hR hl
 rw [he] at HA hR
 have HK := hide (fun W (hb : Below w.heap.size w W) => kind_any g S q W (HH.below (VS.fr g S) hb) (by omega))
 have HW := hide (fun W (hb : Below w.heap.size w W) => (write_any g S p [] false none 0 T N W (h.stay ok hb).1 (h.stay ok hb).2 hS (hm.below hb) hp hby (by simp) hck (RG.nil _ _)).mono (fun _ _ h => FsPost.later hb h))
 have HR := hide hR
 have H := hide h
 have OK := hide ok
 have HWF := hide hS
 clear hR he h ok hS HH hq hm
 by_cases c1 : e = 0
 case neg =>
   obtain ⟨t1, t2⟩ := ne0 c1
   have HE := hide (HR.out.trans (if_pos c1))
   clear c1
   go_enter Tryz.func59, Tryz.ntmps59
   go_wp2_with fail
   refine HA.out.mono ?_
   rintro e w1 ⟨rfl, hb⟩
   have HB := hide hb
   clear hb
   go_wp2
   go_ret
   rw [HE.out]
   exact FsPost.stay H.out OK.out HB.out
 subst c1
 have hRQ := HR.out.trans (if_neg (by simp))
 by_cases q1 : q = [47]
 · have ht : ((bs q).toList == [47]) = true := by rw [bs_toList, q1]; rfl
   have HE := hide (hRQ.trans (if_pos q1))
   clear hRQ q1
   go_enter Tryz.func59, Tryz.ntmps59
   go_wp2_with fail
   refine HA.out.mono ?_
   rintro e w1 ⟨rfl, hb⟩
   have HB := hide hb
   clear hb
   go_wp2
   go_ret
   rw [HE.out]
   exact FsPost.stay H.out OK.out HB.out
 have ht : ((bs q).toList == [47]) = false := by rw [bs_toList]; simpa using q1
 have hRR := hRQ.trans (if_neg q1)
 clear hRQ
 cases hgn : getG S.m (bs q) with
 | none =>
   rw [hgn] at hRR
   have hk : kindM S.m q = 0 := by unfold kindM; rw [if_neg q1, hgn]
   rw [hk] at HK
   have HE := hide hRR
   clear hRR q1 hk hgn
   go_enter Tryz.func59, Tryz.ntmps59
   go_wp2_with fail
   refine HA.out.mono ?_
   rintro e w1 ⟨rfl, hb⟩
   have HB := hide hb
   clear hb
   go_wp2_with fail
   refine (HK.out w1 HB.out).mono ?_
   rintro e w2 ⟨rfl, hb⟩
   have HB2 := hide (below_up HB.out hb HB.out.size)
   clear hb
   have HW2 := HW.out w2 HB2.out
   have HW3 := hide HW2
   clear HW2
   obtain ⟨r, hr⟩ : ∃ r, writeS S p [] false = r := ⟨_, rfl⟩
   rw [hr] at HW3 HE
   unfold FsPost at HW3
   clear hr
   go_wp2_with fail
   refine HW3.out.mono ?_
   rintro e w3 ⟨rfl, h3⟩
   have H3 := hide h3
   clear h3
   go_wp2
   go_ret
   rw [HE.out]
   exact ⟨rfl, H3.out⟩
 | some n =>
   rw [hgn] at hRR
   have hk : kindM S.m q ≠ 0 := by unfold kindM; rw [if_neg q1, hgn]; simp only; split <;> simp
   obtain ⟨kk, hkk⟩ : ∃ y, kindM S.m q = y := ⟨_, rfl⟩
   rw [hkk] at HK hk
   obtain ⟨t1, t2⟩ := ne0 hk
   have HE := hide hRR
   have HGN := hide hgn
   clear hRR q1 hk hgn hkk
   go_enter Tryz.func59, Tryz.ntmps59
   go_wp2_with fail
   refine HA.out.mono ?_
   rintro e w1 ⟨rfl, hb⟩
   have HB := hide hb
   clear hb
   go_wp2_with fail
   refine (HK.out w1 HB.out).mono ?_
   rintro e w2 ⟨rfl, hb⟩
   have HB2 := hide (below_up HB.out hb HB.out.size)
   clear hb
   obtain ⟨hv2, ok2⟩ := H.out.stay OK.out HB2.out
   obtain ⟨bm, en, hen, hc0, hlk, hr2, hn2⟩ := node_in hv2 q n HGN.out (by omega)
   have HP := put_any g S q en T N w2 hv2 ok2 HWF.out.rise (by have := HWF.out.nodes; have := HWF.out.n10; omega) (by omega) hck hr2 hn2
   rw [hen] at HP
   have HPP := hide HP
   clear HP hv2 ok2 hr2 hn2 hen
   obtain ⟨ev, hev⟩ : ∃ v, encN en = v := ⟨_, rfl⟩
   rw [hev] at HPP hlk
   clear hev
   go_wp2_with fail
   refine HPP.out.mono ?_
   rintro e w6 ⟨rfl, hv6, hk6⟩
   have HV6 := hide hv6
   have HK6 := hide hk6
   clear hv6 hk6
   go_wp2
   go_ret
   rw [HE.out]
   exact ⟨rfl, N, HV6.out, GrowN.refl OK.out (Nat.le_trans HB2.out.size HK6.out.size), (Kp.of_below HB2.out T).trans (HK6.out.mono (fun k h => .inl h))⟩
end
section
open Go.RowKit Go.Deep Go.Maps Ln Pth Vf
def T0 (b : Nat) (k : Nat) : Prop := b ≤ k ∧ k < b + 2
def TA (b : Nat) (w0 : World) (S : St) (wr : World) : Prop := ∃ N, VS (b + 1) S (T0 b) N wr ∧ OkTN (T0 b) N wr ∧ Below w0.heap.size w0 wr
theorem TA.write {b : Nat} {w0 wr : World} {S : St} (h : TA b w0 S wr) (h0 : w0.heap.size ≤ b) (hm : MX w0) (hS : WfS S) (hby : S.bytes ≤ 400000) (hck : S.clock ≤ 1000000000) (p : T) (hp : p.length ≤ 50000) (d : T) (hd : d.length ≤ 400000) (more : Bool) (A : Option Addr) (c : Nat) (hA : RG encB 1 wr A d) :
   Calls Tryz.prog 33 #[.pointer (some ⟨b + 1, 0, none⟩), .string (bs p), .slice A d.length c, .bool more] wr fun e w' => e = .returned (.int .i64 (writeS S p d more).2) ∧ TA b w0 (writeS S p d more).1 w' ∧ Kp wr w' (T0 b) := by
 obtain ⟨N, hv, ok, hb⟩ := h
 refine (write_any (b + 1) S p d more A c (T0 b) N wr hv ok hS (hm.below hb) hp hby hd hck hA).mono ?_
 rintro e w' ⟨rfl, N', hv', hg, hk⟩
 exact ⟨rfl, ⟨N', hv', hg.2.2.2, hk.below hb (Nat.le_refl _) (fun k h => by unfold T0 at h; omega)⟩, hk⟩
theorem TA.new {w0 w1 w2 : World} (h0 : Below w0.heap.size w0 w1) (n m : Int) (hb : Below w1.heap.size w1 w2) (hv : VS (w1.heap.size + 1) (newS n m) (fun k => w1.heap.size ≤ k ∧ k < w2.heap.size) (fun _ => False) w2) (hs : w2.heap.size = w1.heap.size + 2) : TA w1.heap.size w0 (newS n m) w2 := by
 rw [show (fun k => w1.heap.size ≤ k ∧ k < w2.heap.size) = T0 w1.heap.size by funext k; unfold T0; rw [hs]] at hv
 exact ⟨_, hv, ⟨fun k hk => ⟨by unfold T0 at hk; omega, fun h => h⟩, fun k h => h.elim⟩, below_up h0 hb h0.size⟩
theorem TA.hs {b : Nat} {w0 wr : World} {S : St} (h : TA b w0 S wr) : Hs (VS (b + 1) S) wr := by
 obtain ⟨N, hv, ok, _⟩ := h
 exact ⟨_, N, hv, ok⟩
theorem TA.below {b : Nat} {w0 wr : World} {S : St} (h : TA b w0 S wr) : Below w0.heap.size w0 wr := by
 obtain ⟨N, hv, ok, hb⟩ := h
 exact hb
end
section
open Go.RowKit Go.Deep Go.Maps Ln Pth Vf
attribute [local go_sem] bt_eq
theorem convYY (w : World) (C : Array Value) (n c : Nat) : (convert 66 66 (.slice (some ⟨w.heap.size, 0, none⟩) n c)).run Tryz.prog (w.alloc (.cells C 5)) = .ok (.slice (some ⟨w.heap.size, 0, none⟩) n c) (w.alloc (.cells C 5 (C.size, C.size + 1))) := Lib.run_convert_bytes_const w 66 5 C n c Tryz.underlying66 Tryz.underlying5
attribute [local go_sem] convYY
theorem num4_any (n : Int) (w : World) : Calls Tryz.prog 53 #[.int .i64 n] w fun e w' => e = .returned (.int .i64 n) ∧ w = w' := by
 go_enter Tryz.func53, Tryz.ntmps53
 go_wp2
 go_ret
 exact ⟨rfl, rfl⟩
end
section
open Go.RowKit Go.Deep Go.Maps Ln Pth Vf
attribute [local go_sem] bt_eq
theorem sr_one {W : World} {g : Nat} {s : ByteArray} (h : W.heap[g]? = some (.cells #[.string s] 9)) : SR W (some ⟨g, 0, none⟩) [s] := by
 intro k x hk
 cases k with
 | zero =>
   simp at hk
   subst hk
   exact ⟨_, _, rfl, (Array.getElem?_eq_some_iff.1 h).1, cellOf h rfl⟩
 | succ k => simp at hk
theorem rg_rule {W : World} {g : Nat} {r : Rl} (h : W.heap[g]? = some (.cells #[sv r.tg, sv r.nd, sv r.rc] 63)) : RG encRl 3 W (some ⟨g, 0, none⟩) [r] := by
 intro k x hk
 cases k with
 | zero =>
   simp at hk
   subst hk
   refine ⟨_, _, rfl, (Array.getElem?_eq_some_iff.1 h).1, fun j u hu => ?_⟩
   match j, hu with
   | 0, hu => rw [show u = _ from (Option.some.inj hu).symm]; exact cellOf h rfl
   | 1, hu => rw [show u = _ from (Option.some.inj hu).symm]; exact cellOf h rfl
   | 2, hu => rw [show u = _ from (Option.some.inj hu).symm]; exact cellOf h rfl
   | j + 3, hu => simp [encRl] at hu
 | succ k => simp at hk
end
section
open Go.RowKit Go.Deep Go.Maps Ln Pth Vf
def SN (N : Nat → Prop) (x : SRow) : Prop := ∀ a, x.1 = some a → x.2.2 ≠ [] → N a.block
structure RlN (N : Nat → Prop) (r : Rl) : Prop where
 tg : SN N r.tg
 nd : SN N r.nd
 rc : SN N r.rc
theorem OwnG.of {α : Type} {enc : α → List Value} {n : Nat} {E : TypeId} {w w' : World} {base : Nat} {v : Value} {L : List α} (h : OwnG enc n E w base v L) (hb : ∀ k, v.ownBlock = some k → w'.heap[k]? = w.heap[k]?) : OwnG enc n E w' base v L := by
 obtain ⟨h1, h2⟩ := h
 refine ⟨h1, ?_⟩
 rcases h2 with h | ⟨g, cap, cur, rfl, hg, hh, r⟩
 · exact .inl h
 · exact .inr ⟨g, cap, cur, rfl, hg, (hb g rfl).trans hh, r⟩
end
end Go.Proofs.YtaajofojbhdgaaaGreatDoor
