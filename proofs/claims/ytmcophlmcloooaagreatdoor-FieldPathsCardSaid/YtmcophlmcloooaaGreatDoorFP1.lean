/- Walks and plain facts that the claim uses. -/
import Derived.Test.YtmcophlmcloooaaGreatDoorFP0
import Derived.Deep.RegionHeld3
import Derived.Shelf.Strings.SlTrimAscii
import Derived.Shelf.Strings.Builder1
import Derived.Shelf.Strings.Builder2
import Derived.Shelf.Strings.OnBuilder
import Derived.Shelf.Strings.Trim
import Derived.Shelf.Small.Utf8
import Derived.Shelf.Small.Bits
import Derived.Shelf.Small.Strs
import Derived.Shelf.Small.Wraps
import Derived.Shelf.Strings.BuilderF
import Derived.Shelf.Strings.BuilderK
import Derived.Shelf.Strings.Builder2Cap
import Derived.Shelf.Strconv.Itoa0
import Derived.Shelf.Strings.Search1
import Derived.Shelf.Strings.Search2
import Derived.Shelf.Strings.Search3
import Derived.Shelf.Strings.Cut
import Derived.Shelf.Strings.Count
import Derived.Shelf.LaysM
import Derived.Shelf.Strings.Shaped
import Derived.Shelf.Sort.Plain
import Derived.Shelf.Strings.Prefix
import Derived.Shelf.Strings.Split
import Derived.Shelf.Strings.Replace
import Derived.Shelf.Strings.SplitShaped
import Derived.Shelf.Strings.Runes
import Derived.Shelf.Strings.IndexAny
import Derived.Shelf.Strings.AsciiSet
import Derived.Shelf.Strings.IndexAnyAll
import Derived.Shelf.Unicode.DecodeSlow
import Derived.Shelf.Strings.FieldsFuncAny
import Derived.Shelf.Strings.BuilderCap
import Derived.Shelf.Slices.Turned
import Derived.Shelf.Slices.Equal
import Derived.Ground.Names2Prog
import Derived.Shelf.Slices.Clone
import Derived.Shelf.Slices.CompactS
import Derived.Shelf.Slices.Cells
import Derived.Shelf.Slices.In.SortNone
import Derived.Shelf.Slices.Empties2
import Derived.Ground.SlbCloneProg
import Derived.Shelf.Bytes.SlClone
import Derived.Ground.SlgfProg
import Derived.Shelf.SlicesE.IndexFunc
import Derived.Test.YtmcophlmcloooaaGreatDoorProg
import Derived.Sort.OwnSorted
import Derived.Laws.RangeAny
import Derived.Laws.Runes
import Derived.Lib.IndexAny
import Derived.StillTailTactics
import Derived.Lib.IndexBytes
import Derived.Lib.Builder
import Derived.Lib.AppendStr
import Derived.WalkKit
import Derived.Laws.Externs
import Derived.Laws.IdiomCopy
set_option maxRecDepth 100000
set_option maxHeartbeats 16000000
set_option linter.unusedSimpArgs false
set_option linter.unusedVariables false
namespace Go.Proofs.YtmcophlmcloooaaGreatDoor
section
open Go.RowKit Go.Deep Qm.Glob
attribute [local go_sem] bt_eq
theorem Tryz.info49 : (Tryz.prog.info? 160).map (fun i => (i.zero, i.size, i.bytes)) = some (some (.agg (giAgg false (fun _ => false) false 0 false)), 8, 48) := by
 unfold giAgg; simp only [wd_empty]; kernel_rfl
theorem wpList_appI {ops : Array Oper} {rest : List Oper} {o : Oper} {a : Act} {Q : Exit → Act → World → Prop} (wr w0 : World) (hgd : o.guard = none) (s x : Operand)
   (ho : o.op = .call { callee := .builtin .append, args := #[s, x], argTypes := #[154, 154] }) (v : Value) (acc : List GI) (hs : a.eval s = v)
   (hown : Hid (wr.ownsRow w0.heap.size 160 8 v acc.length (giCells acc))) (hB : Hid (Below w0.heap.size w0 wr)) (news : Array Value) (it : GI) (hn : news.toList = it.cells)
   (hx : a.eval x = .slice (some ⟨wr.heap.size, 0, none⟩) 1 1) (hl : acc.length ≤ 1000)
   (h : ∀ v' w', Hid (w'.ownsRow w0.heap.size 160 8 v' (acc ++ [it]).length (giCells (acc ++ [it]))) → Hid (Below w0.heap.size w0 w') → wpList Tryz.prog ops Q rest (a.put o.dst v') w') :
   wpList Tryz.prog ops Q (o :: rest) a (wr.alloc (.cells news 160)) := by
 obtain ⟨i0, hi, hz0, hz1, hz2⟩ := info_parts Tryz.info49
 refine wpList_app1 wr hgd s x 154 ho w0.heap.size 160 i0 _ 8 48 Tryz.underlying154 hi hz0 hz1 hz2 rfl (by omega) v acc.length (giCells acc) hs hown.out news 1 hx ?_ ?_
   (by simp only [maxLen]; omega) (by omega) hB.out.size w0.heap.size w0 hB.out (Nat.le_refl _) ?_
 · have := congrArg List.length hn
   simpa [GI.cells, giAgg] using this
 · rw [hn]; exact gi_one' it
 · intro v' w' ho' hb'
   refine h v' w' ?_ hb'
   rw [hn, ← giCells_snoc] at ho'
   rw [List.length_append]
   exact ho'
theorem giStar_cells : (#[.bool true, .int .u64 0, .int .u64 0, .int .u64 0, .int .u64 0, .bool false, .int .u8 0, .bool false] : Array Value).toList = giStar.cells := by
 simp only [GI.cells, giAgg, giStar, wd_empty]
 rfl
theorem gi_news (b0 : Bool) (S : Nat → Bool) (b1 : Bool) (c : Nat) (b2 : Bool) : (#[.bool b0, .int .u64 (wd S 0), .int .u64 (wd S 1), .int .u64 (wd S 2), .int .u64 (wd S 3), .bool b1, .int .u8 c, .bool b2] : Array Value).toList = (GI.mk b0 S b1 c b2).cells := rfl
theorem slice_new (w : World) (o : Obj) : Value.slice (some ⟨w.heap.size + 1, 0, none⟩) 1 1 = Value.slice (some ⟨(w.alloc o).heap.size, 0, none⟩) 1 1 := by simp
def ItRel (s : ByteArray) (w : World) (v3 v4 : Value) (wr : World) : Prop :=
 ∃ (k f : Nat) (acc : List GI), v4 = .int .i64 k ∧ k ≤ s.size ∧ s.size < f + k ∧ acc.length ≤ k ∧ acc ++ gIt (bt s) s.size f k = gItems (bt s) s.size ∧
   wr.ownsRow w.heap.size 160 8 v3 acc.length (giCells acc) ∧ Below w.heap.size w wr
theorem items_any (s : ByteArray) (w : World) (hs : s.size ≤ 1000) :
   Calls Tryz.prog 98 #[.string s] w fun e w' => ∃ v, e = .returned v ∧ w'.ownsRow w.heap.size 160 8 v (gItems (bt s) s.size).length (giCells (gItems (bt s) s.size)) ∧ Below w.heap.size w w' := by
 obtain ⟨i0, hi, hz0, hz1, hz2⟩ := info_parts Tryz.info49
 go_enter Tryz.func98, Tryz.ntmps98
 go_wp2
 go_loopw [3, 4] (fun v3 v4 wr => ItRel s w v3 v4 wr) (fun _ v4 _ => s.size - (intOf v4).toNat)
 case atStart => exact ⟨0, s.size + 1, [], rfl, by omega, by omega, by simp, rfl, World.ownsRow_nil _ _ _ _, Below.refl _ _⟩
 case round =>
   obtain ⟨k, f, acc, rfl, hk, hf, hal, hR, hown, hb⟩ := hrel
   have HR := hide hR
   have HO := hide hown
   have HB := hide hb
   clear hR hown hb
   by_cases hlt : k < s.size
   · obtain ⟨f, rfl⟩ : ∃ f', f = f' + 1 := ⟨f - 1, by omega⟩
     by_cases h42 : bt s k = 42
     · --{A
       have h1 : (((bt s k : Nat) : Int) == 42) = true := by simp only [beq_iff_eq]; omega
       have HH := hide h42
       clear h42
       go_wp2_with (at_builtin; go_must (refine wpList_appI wr w ?_ (.tmp 22) (.tmp 24) ?_ u3 acc ?_ HO HB ?_ giStar ?_ ?_ ?_ ?_); exact rfl; exact rfl; exact rfl; exact giStar_cells; exact rfl; omega; intro v1 w1 HO1 HB1)
       go_roundw
       case rel =>
         refine ⟨k + 1, f, acc ++ [giStar], by go_num, by omega, by omega, by simp; omega, ?_, HO1.out, HB1.out⟩
         rw [← HR.out, gIt, if_pos hlt, if_pos HH.out]
         simp
       case measure => simp [intOf]; omega
     · have g42 : (((bt s k : Nat) : Int) == 42) = false := by simp only [beq_eq_false_iff_ne]; omega
       by_cases h63 : bt s k = 63
       · --{B
         have h1 : (((bt s k : Nat) : Int) == 63) = true := by simp only [beq_iff_eq]; omega
         have HH := hide h63
         have HH2 := hide h42
         clear h63 h42
         have hn := gi_new wr false false false 0
         have ho1 := HO.out.alloc (.cells #[.bool false, .int .u64 0, .int .u64 0, .int .u64 0, .int .u64 0, .bool false, .int .u8 (0 : Nat), .bool false] 160)
         have hb1 := HB.out.alloc HB.out.size (.cells #[.bool false, .int .u64 0, .int .u64 0, .int .u64 0, .int .u64 0, .bool false, .int .u8 (0 : Nat), .bool false] 160)
         have hlt3 := HO.out.lt
         have HN := hide hn
         have HO1 := hide ho1
         have HB1 := hide hb1
         have HL := hide hlt3
         clear hn ho1 hb1 hlt3
         go_wp2_with fail
         refine (add_any wr.heap.size false (fun _ => false) false 0 false 0 255 _ (by omega) (by omega) HN.out).mono ?_
         rintro e w1 ⟨rfl, hr, hg⟩
         have HO2 := hide (own_gb HO1.out hg (fun k hk => by have := HL.out k hk; omega))
         have HB2 := hide (HB1.out.trans (below_of_gb hg (by have := HB.out.size; simp; omega) HB.out.size))
         obtain ⟨c0, c1, c2, c3, c4, c5, c6, c7⟩ := gi_cells hr
         clear hr hg HN HO1 HB1 HL
         go_wp2_with (at_builtin; go_must (refine wpList_appI w1 w ?_ (.tmp 31) (.tmp 33) ?_ u3 acc ?_ HO2 HB2 ?_ giAny ?_ ?_ ?_ ?_); exact rfl; exact rfl; exact rfl; exact gi_news _ _ _ _ _; exact rfl; omega; intro v1 w1 HO1 HB1)
         go_roundw
         case rel =>
           refine ⟨k + 1, f, acc ++ [giAny], by go_num, by omega, by omega, by simp; omega, ?_, HO1.out, HB1.out⟩
           rw [← HR.out, gIt, if_pos hlt, if_neg HH2.out, if_pos HH.out]
           simp
         case measure => simp [intOf]; omega
       · have g63 : (((bt s k : Nat) : Int) == 63) = false := by simp only [beq_eq_false_iff_ne]; omega
         by_cases h92 : bt s k = 92
         · --{C
           have h1 : (((bt s k : Nat) : Int) == 92) = true := by simp only [beq_iff_eq]; omega
           have HH := hide h92
           have HH2 := hide h42
           have HH3 := hide h63
           clear h92 h63 h42
           by_cases hl : k + 1 < s.size
           · have HL := hide hl
             go_wp2_with fail
             refine (single_any (bt s (k + 1)) _ (by exact bt_lt s _)).mono ?_
             rintro e w1 ⟨rfl, hb1⟩
             simp only [giAgg]
             have HO2 := hide (own_below HO.out hb1)
             have HB2 := hide (below_up HB.out hb1 HB.out.size)
             clear hb1
             go_wp2_with (at_builtin; go_must (refine wpList_appI w1 w ?_ (.tmp 61) (.tmp 64) ?_ u3 acc ?_ HO2 HB2 ?_ (giOne (bt s (k + 1))) ?_ ?_ ?_ ?_); exact rfl; exact rfl; exact rfl; exact gi_news _ _ _ _ _; exact rfl; omega; intro v1 w1 HO1 HB1)
             go_roundw
             case rel =>
               refine ⟨k + 2, f, acc ++ [giOne (bt s (k + 1))], by go_num, by omega, by omega, by simp; omega, ?_, HO1.out, HB1.out⟩
               rw [← HR.out, gIt, if_pos hlt, if_neg HH2.out, if_neg HH3.out, if_pos HH.out, if_pos HL.out]
               simp
             case measure => simp [intOf]; omega
           · have HL := hide hl
             go_wp2_with fail
             refine (single_any (bt s k) _ (by exact bt_lt s _)).mono ?_
             rintro e w1 ⟨rfl, hb1⟩
             simp only [giAgg]
             have HO2 := hide (own_below HO.out hb1)
             have HB2 := hide (below_up HB.out hb1 HB.out.size)
             clear hb1
             go_wp2_with (at_builtin; go_must (refine wpList_appI w1 w ?_ (.tmp 61) (.tmp 64) ?_ u3 acc ?_ HO2 HB2 ?_ (giOne (bt s k)) ?_ ?_ ?_ ?_); exact rfl; exact rfl; exact rfl; exact gi_news _ _ _ _ _; exact rfl; omega; intro v1 w1 HO1 HB1)
             go_roundw
             case rel =>
               refine ⟨k + 1, f, acc ++ [giOne (bt s k)], by go_num, by omega, by omega, by simp; omega, ?_, HO1.out, HB1.out⟩
               rw [← HR.out, gIt, if_pos hlt, if_neg HH2.out, if_neg HH3.out, if_pos HH.out, if_neg HL.out, HH.out]
               simp
             case measure => simp [intOf]; omega
         · have g92 : (((bt s k : Nat) : Int) == 92) = false := by simp only [beq_eq_false_iff_ne]; omega
           by_cases h91 : bt s k = 91
           · --{D
             have h1 : (((bt s k : Nat) : Int) == 91) = true := by simp only [beq_iff_eq]; omega
             have HH := hide h91
             have HH2 := hide h42
             have HH3 := hide h63
             have HH4 := hide h92
             clear h91 h92 h63 h42
             go_wp2_with fail
             refine (bracket_any s (k + 1) _ hs (by omega)).mono ?_
             rintro e w1 ⟨rfl, hb1⟩
             have HO2 := hide (own_below HO.out hb1)
             have HB2 := hide (below_up HB.out hb1 HB.out.size)
             clear hb1
             rcases hx : gBracket (bt s) s.size (k + 1) with _ | x
             · simp only [brVal, giAgg]
               have HX := hide hx
               clear hx
               have HL := HX
               go_wp2_with fail
               refine (single_any (bt s k) _ (by exact bt_lt s _)).mono ?_
               rintro e w2 ⟨rfl, hb1⟩
               simp only [giAgg]
               have HO3 := hide (own_below (HO2.out.alloc _) hb1)
               have HB3 := hide (below_up (HB2.out.alloc HB2.out.size _) hb1 (by have := HB2.out.size; simp; omega))
               clear hb1
               go_wp2_with (at_builtin; go_must (refine wpList_appI w2 w ?_ (.tmp 61) (.tmp 64) ?_ u3 acc ?_ HO3 HB3 ?_ (giOne (bt s k)) ?_ ?_ ?_ ?_); exact rfl; exact rfl; exact rfl; exact gi_news _ _ _ _ _; exact rfl; omega; intro v1 w1 HO1 HB1)
               go_roundw
               case rel =>
                 refine ⟨k + 1, f, acc ++ [giOne (bt s k)], by go_num, by omega, by omega, by simp; omega, ?_, HO1.out, HB1.out⟩
                 rw [← HR.out, gIt, if_pos hlt, if_neg HH2.out, if_neg HH3.out, if_neg HH4.out, if_pos HH.out, HX.out, HH.out]
                 simp
               case measure => simp [intOf]; omega
             · simp only [brVal, giAgg]
               have HX := hide hx
               have hxl := gBracket_le hx
               obtain ⟨hx1, hx2⟩ := hxl
               clear hx
               have HO3 := hide (HO2.out.alloc (.cells #[.bool false, .int .u64 (wd x.1 0), .int .u64 (wd x.1 1), .int .u64 (wd x.1 2), .int .u64 (wd x.1 3), .bool false, .int .u8 (0 : Nat), .bool true] 160))
               have HB3 := hide (HB2.out.alloc HB2.out.size (.cells #[.bool false, .int .u64 (wd x.1 0), .int .u64 (wd x.1 1), .int .u64 (wd x.1 2), .int .u64 (wd x.1 3), .bool false, .int .u8 (0 : Nat), .bool true] 160))
               clear HO2 HB2
               go_wp2_with (at_builtin; go_must (refine wpList_appI _ w ?_ (.tmp 56) (.tmp 58) ?_ u3 acc ?_ HO3 HB3 ?_ (giSet x.1) ?_ ?_ ?_ ?_); exact rfl; exact rfl; exact rfl; exact gi_news _ _ _ _ _; exact slice_new _ _; omega; intro v1 w1 HO1 HB1)
               go_roundw
               case rel =>
                 refine ⟨x.2, f, acc ++ [giSet x.1], rfl, by omega, by omega, by simp; omega, ?_, HO1.out, HB1.out⟩
                 rw [← HR.out, gIt, if_pos hlt, if_neg HH2.out, if_neg HH3.out, if_neg HH4.out, if_pos HH.out, HX.out]
                 simp
               case measure => simp [intOf]; omega
           · --{E
             have g91 : (((bt s k : Nat) : Int) == 91) = false := by simp only [beq_eq_false_iff_ne]; omega
             have HH2 := hide h42
             have HH3 := hide h63
             have HH4 := hide h92
             have HH := hide h91
             clear h91 h92 h63 h42
             go_wp2_with fail
             refine (single_any (bt s k) _ (by exact bt_lt s _)).mono ?_
             rintro e w1 ⟨rfl, hb1⟩
             simp only [giAgg]
             have HO2 := hide (own_below HO.out hb1)
             have HB2 := hide (below_up HB.out hb1 HB.out.size)
             clear hb1
             go_wp2_with (at_builtin; go_must (refine wpList_appI w1 w ?_ (.tmp 61) (.tmp 64) ?_ u3 acc ?_ HO2 HB2 ?_ (giOne (bt s k)) ?_ ?_ ?_ ?_); exact rfl; exact rfl; exact rfl; exact gi_news _ _ _ _ _; exact rfl; omega; intro v1 w1 HO1 HB1)
             go_roundw
             case rel =>
               refine ⟨k + 1, f, acc ++ [giOne (bt s k)], by go_num, by omega, by omega, by simp; omega, ?_, HO1.out, HB1.out⟩
               rw [← HR.out, gIt, if_pos hlt, if_neg HH2.out, if_neg HH3.out, if_neg HH4.out, if_neg HH.out]
               simp
             case measure => simp [intOf]; omega
   · go_wp2
     go_ret
     have hRn : acc = gItems (bt s) s.size := by rw [← HR.out]; cases f <;> simp [gIt, hlt]
     subst hRn
     exact ⟨_, rfl, HO.out, HB.out⟩
end
section
open Go.RowKit Go.Deep Qm.Glob
attribute [local go_sem] bt_eq
def ItemsAt (w : World) (A : Option Addr) (B : Nat) (l : List GI) : Prop :=
 ∀ k x, l[k]? = some x → ∃ g, A = some ⟨g, 0, none⟩ ∧ g < B ∧ ∀ j u, x.cells[j]? = some u → w.cell? ⟨g, k * 8 + j, none⟩ = some u
def isStar (l : List GI) (k : Nat) : Bool := (l.getD k giStar).star
def hasC (l : List GI) (k c : Nat) : Bool := (l.getD k giStar).S c
theorem items_cells {w wr : World} {A : Option Addr} {B : Nat} {l : List GI} (h : ItemsAt w A B l) (hb : Below B w wr) {j : Nat} {b0 : Bool} {S : Nat → Bool} {b1 : Bool} {c : Nat} {b2 : Bool} (hx : l[j]? = some ⟨b0, S, b1, c, b2⟩) :
   ∃ g, A = some ⟨g, 0, none⟩ ∧ g < B ∧ wr.cell? ⟨g, j * 8, none⟩ = some (.bool b0) ∧ wr.cell? ⟨g, j * 8 + 1, none⟩ = some (.int .u64 (wd S 0)) ∧ wr.cell? ⟨g, j * 8 + 2, none⟩ = some (.int .u64 (wd S 1)) ∧
     wr.cell? ⟨g, j * 8 + 3, none⟩ = some (.int .u64 (wd S 2)) ∧ wr.cell? ⟨g, j * 8 + 4, none⟩ = some (.int .u64 (wd S 3)) ∧ wr.cell? ⟨g, j * 8 + 5, none⟩ = some (.bool b1) ∧ wr.cell? ⟨g, j * 8 + 6, none⟩ = some (.int .u8 c) ∧ wr.cell? ⟨g, j * 8 + 7, none⟩ = some (.bool b2) := by
 obtain ⟨g, rfl, hg, hc⟩ := h j _ hx
 have e : ∀ q u, (GI.mk b0 S b1 c b2).cells[q]? = some u → wr.cell? ⟨g, j * 8 + q, none⟩ = some u := fun q u hq => (hb.cell (p := ⟨g, j * 8 + q, none⟩) hg).trans (hc q u hq)
 exact ⟨g, rfl, hg, e 0 _ rfl, e 1 _ rfl, e 2 _ rfl, e 3 _ rfl, e 4 _ rfl, e 5 _ rfl, e 6 _ rfl, e 7 _ rfl⟩
theorem gi_newS (w : World) (b0 : Bool) (S : Nat → Bool) (b1 : Bool) (c : Nat) (b2 : Bool) : (w.alloc (.cells #[.bool b0, .int .u64 (wd S 0), .int .u64 (wd S 1), .int .u64 (wd S 2), .int .u64 (wd S 3), .bool b1, .int .u8 c, .bool b2] 160)).rowIs w.heap.size 160 8 (giCell b0 S b1 c b2) :=
 World.rowIs_alloc _ _ _ _ fun i hi => by
   have hi : i < 8 := hi
   have h : i = 0 ∨ i = 1 ∨ i = 2 ∨ i = 3 ∨ i = 4 ∨ i = 5 ∨ i = 6 ∨ i = 7 := by omega
   rcases h with rfl | rfl | rfl | rfl | rfl | rfl | rfl | rfl <;> rfl
theorem has_cell (w : World) (b0 : Bool) (S : Nat → Bool) (b1 : Bool) (c : Nat) (b2 : Bool) (d : Nat) (hd : d < 256) :
   (w.alloc (.cells #[.bool b0, .int .u64 (wd S 0), .int .u64 (wd S 1), .int .u64 (wd S 2), .int .u64 (wd S 3), .bool b1, .int .u8 c, .bool b2] 160)).cell? ⟨w.heap.size, 1 + d / 64, none⟩ = some (.int .u64 (wd S (d / 64))) := by
 rw [(gi_newS w b0 S b1 c b2).cell (by omega), giCell_word' _ _ _ _ _ _ (by omega)]
theorem down_row {w : World} {g t N : Nat} {st : Nat → Bool} {hs : Nat → Nat → Bool} {tt : Nat → Nat} {n i k : Nat} {b : Bool}
   (h : w.rowIs g t N (fun q => .bool (if k + 1 < q then Bv st hs tt n q (i + 1) else Av st hs tt n q i))) (hb : b = Bv st hs tt n (k + 1) (i + 1)) :
   (w.setCell ⟨g, k + 1, none⟩ (.bool b)).rowIs g t N (fun q => .bool (if k < q then Bv st hs tt n q (i + 1) else Av st hs tt n q i)) :=
 (h.set (k + 1) _).congr fun q _ => by
   by_cases e : q = k + 1
   · subst e; rw [if_pos rfl, if_pos (by omega), hb]
   · rw [if_neg e]
     by_cases e2 : k + 1 < q
     · rw [if_pos e2, if_pos (by omega)]
     · rw [if_neg e2, if_neg (by omega)]
theorem bot_row {w : World} {g t N : Nat} {st : Nat → Bool} {hs : Nat → Nat → Bool} {tt : Nat → Nat} {n i : Nat} {b : Bool}
   (h : w.rowIs g t N (fun q => .bool (if 0 < q then Bv st hs tt n q (i + 1) else Av st hs tt n q i))) (hb : b = Bv st hs tt n 0 (i + 1)) :
   (w.setCell ⟨g, 0, none⟩ (.bool b)).rowIs g t N (fun q => .bool (Bv st hs tt n q (i + 1))) :=
 (h.set 0 _).congr fun q _ => by
   by_cases e : q = 0
   · subst e; rw [if_pos rfl, hb]
   · rw [if_neg e, if_pos (by omega)]
theorem isStar_of {l : List GI} {j : Nat} {x : GI} (hx : l[j]? = some x) : isStar l j = x.star := by simp [isStar, List.getD_eq_getElem?_getD, hx]
theorem hasC_of {l : List GI} {j : Nat} {x : GI} (hx : l[j]? = some x) (c : Nat) : hasC l j c = x.S c := by simp [hasC, List.getD_eq_getElem?_getD, hx]
theorem ends_any (s : ByteArray) (A : Option Addr) (c : Nat) (l : List GI) (w : World) (hs : s.size ≤ 1000) (hl : l.length ≤ 1000) (hat : ItemsAt w A w.heap.size l) :
   Calls Tryz.prog 222 #[.slice A l.length c, .string s] w fun e w' => ∃ g, e = .returned (.slice (some ⟨g, 0, none⟩) (s.size + 1) (s.size + 1)) ∧ w.heap.size ≤ g ∧
     w'.rowIs g 4 (s.size + 1) (fun i => .bool (E (isStar l) (hasC l) (bt s) l.length i)) ∧ Below w.heap.size w w' := by
 have HAT := hide hat
 clear hat
 have hmk1 := mk38 l.length (by omega)
 have hmk2 := mk38 s.size (by omega)
 have hr1 := (row0 w (l.length + 1) 4 (.bool true) (.bool false)).alloc (.cells (madeCells #[.bool false] (s.size + 1)) 4)
 have hr2 := World.rowIs_made (w.alloc (.cells ((madeCells #[.bool false] (l.length + 1)).setIfInBounds 0 (.bool true)) 4)) (.bool false) (s.size + 1) 4
 rw [show (w.alloc (.cells ((madeCells #[.bool false] (l.length + 1)).setIfInBounds 0 (.bool true)) 4)).heap.size = w.heap.size + 1 from by simp] at hr2
 have hc0 := (World.rowIs_made w (.bool false) (l.length + 1) 4).cell (i := 0) (by omega)
 have hf0 := (World.rowIs_made w (.bool false) (l.length + 1) 4).frozen 0
 have HR1 := hide hr1
 have HR2 := hide hr2
 clear hr1 hr2
 go_enter Tryz.func222, Tryz.ntmps222
 go_wp2
 clear hc0 hf0 hmk1 hmk2
 go_loopw [7] (fun v7 wr => ∃ i : Nat, v7 = .int .i64 i ∧ i ≤ s.size ∧ wr.rowIs w.heap.size 4 (l.length + 1) (fun k => .bool (Bv (isStar l) (hasC l) (bt s) l.length k i)) ∧
     wr.rowIs (w.heap.size + 1) 4 (s.size + 1) (fun q => if q < i then .bool (E (isStar l) (hasC l) (bt s) l.length q) else .bool false) ∧ Below w.heap.size w wr) (fun v7 _ => s.size - (intOf v7).toNat)
 case atStart =>
   refine ⟨0, rfl, by omega, HR1.out.congr (fun k _ => ?_), HR2.out.congr (fun q _ => by rw [if_neg (by omega)]), ((Below.refl _ _).alloc (Nat.le_refl _) _).alloc (by simp) _⟩
   by_cases h : k = 0 <;> simp [Bv, h]
 case round =>
   obtain ⟨i, rfl, hi, hr1, hr2, hb⟩ := hrel
   clear HR1 HR2
   have HR1 := hide hr1
   have HR2 := hide hr2
   have HB := hide hb
   clear hr1 hr2 hb
   go_wp2
   go_loopw [26] (fun v26 wx => ∃ j : Nat, v26 = .int .i64 j ∧ j ≤ l.length ∧ wx.rowIs w.heap.size 4 (l.length + 1) (fun k => .bool (if k ≤ j then Av (isStar l) (hasC l) (bt s) l.length k i else Bv (isStar l) (hasC l) (bt s) l.length k i)) ∧
     wx.rowIs (w.heap.size + 1) 4 (s.size + 1) (fun q => if q < i then .bool (E (isStar l) (hasC l) (bt s) l.length q) else .bool false) ∧ Below w.heap.size w wx) (fun v26 _ => l.length - (intOf v26).toNat)
   case atStart =>
     refine ⟨0, rfl, by omega, HR1.out.congr (fun k _ => ?_), HR2.out, HB.out⟩
     by_cases h : k ≤ 0
     · rw [if_pos h, show k = 0 from by omega, Av_zero]
     · rw [if_neg h]
   case round =>
     clear HR1 HR2 HB
     obtain ⟨j, rfl, hj, hr1, hr2, hb⟩ := hrel
     have HR1 := hide hr1
     have HR2 := hide hr2
     have HB := hide hb
     clear hr1 hr2 hb
     by_cases hlt : j < l.length
     · skip
       obtain ⟨x, hx⟩ : ∃ x, l[j]? = some x := ⟨l[j], List.getElem?_eq_getElem hlt⟩
       obtain ⟨b0, S, b1, cc, b2⟩ := x
       obtain ⟨g, rfl, hg, c0, c1, c2, c3, c4, c5, c6, c7⟩ := items_cells HAT.out HB.out hx
       have hst := isStar_of hx
       have hcell := HR1.out.cell (i := j) (by omega)
       have hfr := HR1.out.frozen (j + 1)
       have hcell1 := HR1.out.cell (i := j + 1) (by omega)
       rw [if_pos (Nat.le_refl _)] at hcell
       rw [if_neg (by omega)] at hcell1
       have hgl := HB.out.size
       have hl1 := HR1.out.lt
       clear hx
       have HS := hide hst
       clear hst
       cases b0 with
       | false =>
         go_wp2
         go_roundw
         case rel =>
           have hs := HS.out
           go_light
           refine ⟨j + 1, by go_num, by omega, (HR1.out.alloc _).congr (fun k _ => ?_), HR2.out.alloc _, HB.out.alloc (by omega) _⟩
           by_cases h : k = j + 1
           · subst h
             rw [if_neg (by omega), if_pos (Nat.le_refl _), Av_succ _ _ _ hlt, hs]
             simp
           · by_cases h2 : k ≤ j
             · rw [if_pos h2, if_pos (by omega)]
             · rw [if_neg h2, if_neg (by omega)]
         case measure => simp [intOf]; omega
       | true =>
         generalize hav : Av (isStar l) (hasC l) (bt s) l.length j i = av at hcell
         have HAV := hide hav
         clear hav
         cases av with
         | false =>
           go_wp2
           go_roundw
           case rel =>
             have hs := HS.out
             have ha := HAV.out
             go_light
             refine ⟨j + 1, by go_num, by omega, (HR1.out.alloc _).congr (fun k _ => ?_), HR2.out.alloc _, HB.out.alloc (by omega) _⟩
             by_cases h : k = j + 1
             · subst h
               rw [if_neg (by omega), if_pos (Nat.le_refl _), Av_succ _ _ _ hlt, hs, ha]
               simp
             · by_cases h2 : k ≤ j
               · rw [if_pos h2, if_pos (by omega)]
               · rw [if_neg h2, if_neg (by omega)]
           case measure => simp [intOf]; omega
         | true =>
           go_wp2
           go_roundw
           case rel =>
             have hs := HS.out
             have ha := HAV.out
             go_light
             refine ⟨j + 1, by go_num, by omega, (HR1.out.set (j + 1) _).alloc _ |>.congr (fun k _ => ?_), (HR2.out.setOther (by simp) _).alloc _, (HB.out.setCell (by simp) _).alloc (by simp only [World.size_setCell]; omega) _⟩
             by_cases h : k = j + 1
             · subst h
               rw [if_pos rfl, if_pos (Nat.le_refl _), Av_succ _ _ _ hlt, hs, ha]
               simp
             · rw [if_neg h]
               by_cases h2 : k ≤ j
               · rw [if_pos h2, if_pos (by omega)]
               · rw [if_neg h2, if_neg (by omega)]
           case measure => simp [intOf]; omega
     · skip
       obtain rfl : j = l.length := by omega
       have hcn := HR1.out.cell (i := l.length) (by omega)
       rw [if_pos (Nat.le_refl _), Av_top] at hcn
       have hco := HR2.out.cell (i := i) (by omega)
       have hfo := HR2.out.frozen i
       have hgl := HB.out.size
       have hl2 := HR2.out.lt
       rw [if_neg (by omega)] at hco
       by_cases hie : i = s.size
       · skip
         have g1 : ((i : Int) == (s.size : Int)) = true := by simp [hie]
         have HIE := hide hie
         clear hie
         go_wp2
         go_ret
         refine ⟨_, rfl, by omega, (HR2.out.set i _).congr (fun q hq => ?_), HB.out.setCell (by simp) _⟩
         by_cases e : q = i
         · subst e; rw [if_pos rfl]
         · have := HIE.out
           rw [if_neg e, if_pos (by omega)]
       · have g1 : ((i : Int) == (s.size : Int)) = false := by simp only [beq_eq_false_iff_ne]; omega
         have hi2 : i < s.size := by omega
         clear hie
         go_wp2
         go_loopw [10] (fun v10 wx => ∃ k : Nat, v10 = .int .i64 k ∧ k ≤ l.length ∧ wx.rowIs w.heap.size 4 (l.length + 1) (fun q => .bool (if k < q then Bv (isStar l) (hasC l) (bt s) l.length q (i + 1) else Av (isStar l) (hasC l) (bt s) l.length q i)) ∧
           wx.rowIs (w.heap.size + 1) 4 (s.size + 1) (fun q => if q < i + 1 then .bool (E (isStar l) (hasC l) (bt s) l.length q) else .bool false) ∧ Below w.heap.size w wx) (fun v10 _ => (intOf v10).toNat)
         case atStart =>
           refine ⟨l.length, rfl, by omega, (HR1.out.setOther (by simp) _).congr (fun q hq => by rw [if_pos (by omega), if_neg (by omega)]), (HR2.out.set i _).congr (fun q _ => ?_), HB.out.setCell (by simp) _⟩
           by_cases e : q = i
           · subst e; rw [if_pos rfl, if_pos (by omega)]
           · rw [if_neg e]
             by_cases e2 : q < i
             · rw [if_pos e2, if_pos (by omega)]
             · rw [if_neg e2, if_neg (by omega)]
         case round =>
           clear HR1 HR2 HB hcn hco hfo hgl hl2
           obtain ⟨k, rfl, hk, hr1, hr2, hb⟩ := hrel
           have HR1 := hide hr1
           have HR2 := hide hr2
           have HB := hide hb
           clear hr1 hr2 hb
           have hgl := HB.out.size
           have hl1 := HR1.out.lt
           have hl2 := HR2.out.lt
           have hfr := HR1.out.frozen
           rcases k with _ | k
           · skip
             have hcell := HR1.out.cell (i := 0) (by omega)
             rw [if_neg (by omega)] at hcell
             generalize hav : Av (isStar l) (hasC l) (bt s) l.length 0 i = av at hcell
             have HAV := hide hav
             clear hav
             cases av with
             | false =>
               go_wp2
               go_roundw
               case rel =>
                 go_light
                 refine ⟨i + 1, by go_num, by omega, bot_row HR1.out ?_, HR2.out.setOther (by simp) _, HB.out.setCell (by simp) _⟩
                 simp only [Bv, if_true]
                 rw [HAV.out]
                 simp
               case measure => simp [intOf]; omega
             | true =>
               by_cases hn : 0 < l.length
               · obtain ⟨x, hx⟩ : ∃ x, l[0]? = some x := ⟨l[0], List.getElem?_eq_getElem hn⟩
                 obtain ⟨b0, S, b1, cc, b2⟩ := x
                 obtain ⟨g, rfl, hg, c0, c1, c2, c3, c4, c5, c6, c7⟩ := items_cells HAT.out HB.out hx
                 have HS := hide (isStar_of hx)
                 clear hx c1 c2 c3 c4 c5 c6 c7
                 rw [Nat.zero_mul] at c0
                 cases b0 with
                 | false =>
                   go_wp2
                   go_roundw
                   case rel =>
                     go_light
                     refine ⟨i + 1, by go_num, by omega, bot_row HR1.out ?_, HR2.out.setOther (by simp) _, HB.out.setCell (by simp) _⟩
                     simp only [Bv, if_true]
                     rw [HAV.out, HS.out]
                     simp
                   case measure => simp [intOf]; omega
                 | true =>
                   go_wp2
                   go_roundw
                   case rel =>
                     go_light
                     refine ⟨i + 1, by go_num, by omega, bot_row HR1.out ?_, HR2.out.setOther (by simp) _, HB.out.setCell (by simp) _⟩
                     simp only [Bv, if_true]
                     rw [HAV.out, HS.out]
                     simp [hn]
                   case measure => simp [intOf]; omega
               · have HN := hide (show decide (0 < l.length) = false by simpa using hn)
                 go_wp2
                 go_roundw
                 case rel =>
                   go_light
                   refine ⟨i + 1, by go_num, by omega, bot_row HR1.out ?_, HR2.out.setOther (by simp) _, HB.out.setCell (by simp) _⟩
                   simp only [Bv, if_true]
                   rw [HAV.out, HN.out]
                   simp
                 case measure => simp [intOf]; omega
           · obtain ⟨x, hx⟩ : ∃ x, l[k]? = some x := ⟨l[k], List.getElem?_eq_getElem (by omega)⟩
             obtain ⟨b0, S, b1, cc, b2⟩ := x
             obtain ⟨g, rfl, hg, c0, c1, c2, c3, c4, c5, c6, c7⟩ := items_cells HAT.out HB.out hx
             have hgw : g < wr.heap.size := by omega
             have HS := hide (isStar_of hx)
             have HC := hide (hasC_of hx (bt s i))
             have hcell := HR1.out.cell (i := k) (by omega)
             rw [if_neg (by omega)] at hcell
             have hcell0 := HR1.out.cell (i := k + 1) (by omega)
             clear hx
             generalize hav : Av (isStar l) (hasC l) (bt s) l.length k i = av at hcell
             have HAV := hide hav
             clear hav
             cases av with
             | false =>
               by_cases hk1 : k + 1 < l.length
               · obtain ⟨y, hy⟩ : ∃ y, l[k + 1]? = some y := ⟨l[k + 1], List.getElem?_eq_getElem hk1⟩
                 obtain ⟨d0, dS, d1, dc, d2⟩ := y
                 obtain ⟨g', hgg, hg', e0, e1, e2, e3, e4, e5, e6, e7⟩ := items_cells HAT.out HB.out hy
                 injection hgg with hgg
                 injection hgg with hgg
                 subst hgg
                 have HS2 := hide (isStar_of hy)
                 have hcell2 := HR1.out.cell (i := k + 1) (by omega)
                 rw [if_neg (by omega)] at hcell2
                 clear hy e1 e2 e3 e4 e5 e6 e7
                 cases d0 with
                 | false =>
                   go_wp2
                   go_roundw
                   case rel =>
                     go_light
                     refine ⟨k, rfl, by omega, (down_row HR1.out ?_).alloc _, (HR2.out.setOther (by simp) _).alloc _, (HB.out.setCell (by simp) _).alloc (by simp only [World.size_setCell]; omega) _⟩
                     simp only [Bv, Nat.add_sub_cancel]
                     rw [if_neg (by omega), HAV.out, HS2.out]
                     simp
                   case measure => simp [intOf]
                 | true =>
                   go_wp2
                   go_roundw
                   case rel =>
                     go_light
                     refine ⟨k, rfl, by omega, (down_row HR1.out ?_).alloc _, (HR2.out.setOther (by simp) _).alloc _, (HB.out.setCell (by simp) _).alloc (by simp only [World.size_setCell]; omega) _⟩
                     simp only [Bv, Nat.add_sub_cancel]
                     rw [if_neg (by omega), HAV.out, HS2.out]
                     simp [hk1]
                   case measure => simp [intOf]
               · have HK2 := hide (show (decide (k + 1 < l.length)) = false by simpa using hk1)
                 go_wp2
                 go_roundw
                 case rel =>
                   go_light
                   refine ⟨k, rfl, by omega, (down_row HR1.out ?_).alloc _, (HR2.out.setOther (by simp) _).alloc _, (HB.out.setCell (by simp) _).alloc (by simp only [World.size_setCell]; omega) _⟩
                   simp only [Bv, Nat.add_sub_cancel]
                   rw [if_neg (by omega), HAV.out, HK2.out]
                   simp
                 case measure => simp [intOf]
             | true =>
               cases b0 with
               | true =>
                 by_cases hk1 : k + 1 < l.length
                 · obtain ⟨y, hy⟩ : ∃ y, l[k + 1]? = some y := ⟨l[k + 1], List.getElem?_eq_getElem hk1⟩
                   obtain ⟨d0, dS, d1, dc, d2⟩ := y
                   obtain ⟨g', hgg, hg', e0, e1, e2, e3, e4, e5, e6, e7⟩ := items_cells HAT.out HB.out hy
                   injection hgg with hgg
                   injection hgg with hgg
                   subst hgg
                   have HS2 := hide (isStar_of hy)
                   have hcell2 := HR1.out.cell (i := k + 1) (by omega)
                   rw [if_neg (by omega)] at hcell2
                   clear hy e1 e2 e3 e4 e5 e6 e7
                   cases d0 with
                   | false =>
                     go_wp2
                     go_roundw
                     case rel =>
                       go_light
                       refine ⟨k, rfl, by omega, (down_row HR1.out ?_).alloc _, (HR2.out.setOther (by simp) _).alloc _, (HB.out.setCell (by simp) _).alloc (by simp only [World.size_setCell]; omega) _⟩
                       simp only [Bv, Nat.add_sub_cancel]
                       rw [if_neg (by omega), HAV.out, HS.out, HS2.out]
                       simp
                     case measure => simp [intOf]
                   | true =>
                     go_wp2
                     go_roundw
                     case rel =>
                       go_light
                       refine ⟨k, rfl, by omega, (down_row HR1.out ?_).alloc _, (HR2.out.setOther (by simp) _).alloc _, (HB.out.setCell (by simp) _).alloc (by simp only [World.size_setCell]; omega) _⟩
                       simp only [Bv, Nat.add_sub_cancel]
                       rw [if_neg (by omega), HAV.out, HS.out, HS2.out]
                       simp [hk1]
                     case measure => simp [intOf]
                 · have HK2 := hide (show (decide (k + 1 < l.length)) = false by simpa using hk1)
                   go_wp2
                   go_roundw
                   case rel =>
                     go_light
                     refine ⟨k, rfl, by omega, (down_row HR1.out ?_).alloc _, (HR2.out.setOther (by simp) _).alloc _, (HB.out.setCell (by simp) _).alloc (by simp only [World.size_setCell]; omega) _⟩
                     simp only [Bv, Nat.add_sub_cancel]
                     rw [if_neg (by omega), HAV.out, HS.out, HK2.out]
                     simp
                   case measure => simp [intOf]
               | false =>
                 cases hsc : S (bt s i) with
                 | true =>
                   have HSC := hide hsc
                   clear hsc
                   go_wp2_with fail
                   refine (has_any wr.heap.size S (bt s i) _ (bt_lt s i) (has_cell wr false S b1 cc b2 (bt s i) (bt_lt s i))).mono ?_
                   rintro e w1 ⟨rfl, rfl⟩
                   rw [HSC.out]
                   go_wp2
                   go_roundw
                   case rel =>
                     go_light
                     refine ⟨k, rfl, by omega, (down_row HR1.out ?_).alloc _, (HR2.out.setOther (by simp) _).alloc _, (HB.out.setCell (by simp) _).alloc (by simp only [World.size_setCell]; omega) _⟩
                     simp only [Bv, Nat.add_sub_cancel]
                     rw [if_neg (by omega), HAV.out, HS.out, HC.out, HSC.out]
                     simp
                   case measure => simp [intOf]
                 | false =>
                   have HSC := hide hsc
                   clear hsc
                   by_cases hk1 : k + 1 < l.length
                   · obtain ⟨y, hy⟩ : ∃ y, l[k + 1]? = some y := ⟨l[k + 1], List.getElem?_eq_getElem hk1⟩
                     obtain ⟨d0, dS, d1, dc, d2⟩ := y
                     obtain ⟨g', hgg, hg', e0, e1, e2, e3, e4, e5, e6, e7⟩ := items_cells HAT.out HB.out hy
                     injection hgg with hgg
                     injection hgg with hgg
                     subst hgg
                     have HS2 := hide (isStar_of hy)
                     have hcell2 := HR1.out.cell (i := k + 1) (by omega)
                     rw [if_neg (by omega)] at hcell2
                     clear hy e1 e2 e3 e4 e5 e6 e7
                     cases d0 with
                     | false =>
                       go_wp2_with fail
                       refine (has_any wr.heap.size S (bt s i) _ (bt_lt s i) (has_cell wr false S b1 cc b2 (bt s i) (bt_lt s i))).mono ?_
                       rintro e w1 ⟨rfl, rfl⟩
                       rw [HSC.out]
                       go_wp2
                       go_roundw
                       case rel =>
                         go_light
                         refine ⟨k, rfl, by omega, (down_row HR1.out ?_).alloc _, (HR2.out.setOther (by simp) _).alloc _, (HB.out.setCell (by simp) _).alloc (by simp only [World.size_setCell]; omega) _⟩
                         simp only [Bv, Nat.add_sub_cancel]
                         rw [if_neg (by omega), HAV.out, HS.out, HC.out, HSC.out, HS2.out]
                         simp
                       case measure => simp [intOf]
                     | true =>
                       go_wp2_with fail
                       refine (has_any wr.heap.size S (bt s i) _ (bt_lt s i) (has_cell wr false S b1 cc b2 (bt s i) (bt_lt s i))).mono ?_
                       rintro e w1 ⟨rfl, rfl⟩
                       rw [HSC.out]
                       go_wp2
                       go_roundw
                       case rel =>
                         go_light
                         refine ⟨k, rfl, by omega, (down_row HR1.out ?_).alloc _, (HR2.out.setOther (by simp) _).alloc _, (HB.out.setCell (by simp) _).alloc (by simp only [World.size_setCell]; omega) _⟩
                         simp only [Bv, Nat.add_sub_cancel]
                         rw [if_neg (by omega), HAV.out, HS.out, HC.out, HSC.out, HS2.out]
                         simp [hk1]
                       case measure => simp [intOf]
                   · have HK2 := hide (show (decide (k + 1 < l.length)) = false by simpa using hk1)
                     go_wp2_with fail
                     refine (has_any wr.heap.size S (bt s i) _ (bt_lt s i) (has_cell wr false S b1 cc b2 (bt s i) (bt_lt s i))).mono ?_
                     rintro e w1 ⟨rfl, rfl⟩
                     rw [HSC.out]
                     go_wp2
                     go_roundw
                     case rel =>
                       go_light
                       refine ⟨k, rfl, by omega, (down_row HR1.out ?_).alloc _, (HR2.out.setOther (by simp) _).alloc _, (HB.out.setCell (by simp) _).alloc (by simp only [World.size_setCell]; omega) _⟩
                       simp only [Bv, Nat.add_sub_cancel]
                       rw [if_neg (by omega), HAV.out, HS.out, HC.out, HSC.out, HK2.out]
                       simp
                     case measure => simp [intOf]
end
section
open Go.RowKit Go.Deep Qm.Glob
attribute [local go_sem] bt_eq
theorem items_of_own {w : World} {base : Nat} {v : Value} {l : List GI} (h : w.ownsRow base 160 8 v l.length (giCells l)) : ∃ A c, v = .slice A l.length c ∧ ItemsAt w A w.heap.size l := by
 rcases h.2 with ⟨rfl, hn⟩ | ⟨g, cap, cur, rfl, _, hh, _⟩
 · refine ⟨none, 0, by rw [hn], fun k x hx => ?_⟩
   have := (List.getElem?_eq_some_iff.1 hx).1
   omega
 · refine ⟨_, cap, rfl, fun k x hx => ⟨g, rfl, (h.lt g rfl).2, fun j u hu => ?_⟩⟩
   have hj := giCells_get l k x hx j u hu
   have hlt := (List.getElem?_eq_some_iff.1 hj).1
   rw [h.cellAt _ (by rw [← h.1]; exact hlt), hj]
def gMatch (p s : ByteArray) : Bool := E (isStar (gItems (bt p) p.size)) (hasC (gItems (bt p) p.size)) (bt s) (gItems (bt p) p.size).length s.size
end
section
open Go.RowKit Go.Deep Qm.Glob
attribute [local go_sem] bt_eq
theorem beq_cast (a b : Nat) : ((a : Int) == (b : Int)) = (a == b) := by
 rw [Bool.eq_iff_iff]; simp only [beq_iff_eq]; omega
theorem take_snoc' {α : Type} {l : List α} {k : Nat} {a : α} (h : l[k]? = some a) : l.take (k + 1) = l.take k ++ [a] := by
 rw [List.take_add_one, h]; rfl
theorem rone_any (s : ByteArray) (i : Nat) (w : World) (hs : s.size ≤ 1000) (hi : i < s.size) :
   Calls Tryz.prog 176 #[.string s, .int .i64 i] w fun e w' => e = .returned (.tuple #[.int .u8 (rOne (bt s) s.size i).1, .int .i64 (rOne (bt s) s.size i).2]) ∧ w = w' := by
 by_cases h1 : bt s i = 92
 · have g1 : (((bt s i : Nat) : Int) == 92) = true := by simp only [beq_iff_eq]; omega
   have H1 := hide h1
   clear h1
   by_cases h2 : i + 1 < s.size
   all_goals
     have H2 := hide h2
     go_enter Tryz.func176, Tryz.ntmps176
     go_wp2
     go_ret2
     refine ⟨?_, rfl⟩
     have h1 := H1.out
     have h2 := H2.out
     go_light
   · rw [rOne, if_pos ⟨h1, h2⟩]; rfl
   · rw [rOne, if_neg (fun h => h2 h.2)]; rfl
 · have g1 : (((bt s i : Nat) : Int) == 92) = false := by simp only [beq_eq_false_iff_ne]; omega
   have H1 := hide h1
   clear h1
   go_enter Tryz.func176, Tryz.ntmps176
   go_wp2
   go_ret2
   refine ⟨?_, rfl⟩
   have h1 := H1.out
   go_light
   rw [rOne, if_neg (fun h => h1 h.1)]; rfl
def BytesAt (w : World) (v : Value) (l : List Nat) : Prop :=
 ∃ A c, v = .slice A l.length c ∧ ∀ k x, l[k]? = some x → ∃ g, A = some ⟨g, 0, none⟩ ∧ g < w.heap.size ∧ w.cell? ⟨g, k, none⟩ = some (.int .u8 (x : Nat))
theorem is_any (x : RI) (vlo vhi : Value) (c : Nat) (w : World) (hl : x.lo.length ≤ 1000) (hlh : x.lo.length = x.hi.length) (hlo : BytesAt w vlo x.lo) (hhi : BytesAt w vhi x.hi) :
   Calls Tryz.prog 264 #[.agg #[.int .i64 x.kind, .int .u8 x.c, .bool x.nt, vlo, vhi], .int .u8 c] w fun e w' => e = .returned (.bool (x.is c)) ∧ Below w.heap.size w w' := by
 obtain ⟨A, ca, rfl, hA⟩ := hlo
 obtain ⟨B, cb, rfl, hB⟩ := hhi
 have HA := hide hA
 have HB := hide hB
 clear hA hB
 obtain ⟨kind, xc, nt, lo, hi⟩ := x
 simp only at hl hlh HA HB ⊢
 have HL := hide hlh
 clear hlh
 by_cases h0 : kind = 0
 · subst h0
   go_enter Tryz.func264, Tryz.ntmps264
   go_wp2
   go_ret
   refine ⟨?_, (Below.refl _ _).alloc (Nat.le_refl _) _⟩
   show Ending.returned (.bool ((xc : Int) == (c : Int))) = _
   rw [beq_cast]
   rfl
 · have g0 : ((kind : Int) == 0) = false := by simp only [beq_eq_false_iff_ne]; omega
   by_cases h2 : kind = 2
   · subst h2
     clear h0
     go_enter Tryz.func264, Tryz.ntmps264
     go_wp2
     go_ret
     exact ⟨rfl, (Below.refl _ _).alloc (Nat.le_refl _) _⟩
   · have g2 : ((kind : Int) == 2) = false := by simp only [beq_eq_false_iff_ne]; omega
     have HK := hide (show (RI.mk kind xc nt lo hi).is c = (inR lo hi c != nt) by simp only [RI.is]; rw [if_neg h0, if_neg h2])
     clear h0 h2
     go_enter Tryz.func264, Tryz.ntmps264
     go_wp2
     go_loop [5, 6] (fun v5 v6 => ∃ k : Nat, k ≤ lo.length ∧ v6 = .int .i64 k ∧ v5 = .bool (inR (lo.take k) (hi.take k) c)) (fun _ v6 => lo.length - (intOf v6).toNat)
     case atStart => exact ⟨0, Nat.zero_le _, rfl, rfl⟩
     case round =>
       obtain ⟨k, hk, rfl, rfl⟩ := hrel
       by_cases hlt : k < lo.length
       · obtain ⟨a, ha⟩ : ∃ a, lo[k]? = some a := ⟨lo[k], List.getElem?_eq_getElem hlt⟩
         obtain ⟨b, hb⟩ : ∃ b, hi[k]? = some b := ⟨hi[k]'(by have := HL.out; omega), List.getElem?_eq_getElem (by have := HL.out; omega)⟩
         obtain ⟨ga, rfl, hga, hca⟩ := HA.out k a ha
         obtain ⟨gb, rfl, hgb, hcb⟩ := HB.out k b hb
         have hka : k < hi.length := by have := HL.out; omega
         generalize hin : inR (lo.take k) (hi.take k) c = r
         have HIN := hide hin
         have HA1 := hide ha
         have HB1 := hide hb
         clear hin ha hb
         cases r with
         | true =>
           go_wp2
           go_round
           case rel =>
             refine ⟨k + 1, by omega, by go_num, ?_⟩
             rw [take_snoc' HA1.out, take_snoc' HB1.out, inR_snoc _ _ _ _ _ (by have := HL.out; simp only [List.length_take]; omega), HIN.out]
             simp
           case measure => simp [intOf]; omega
         | false =>
           by_cases hac : a ≤ c
           all_goals
             go_wp2
             go_round
             case rel =>
               refine ⟨k + 1, by omega, by go_num, ?_⟩
               rw [take_snoc' HA1.out, take_snoc' HB1.out, inR_snoc _ _ _ _ _ (by have := HL.out; simp only [List.length_take]; omega), HIN.out]
               simp [hac]
             case measure => simp [intOf]; omega
       · obtain rfl : k = lo.length := by omega
         go_wp2
         go_ret
         refine ⟨?_, (Below.refl _ _).alloc (Nat.le_refl _) _⟩
         rw [HK.out]
         have e2 : hi.take lo.length = hi := by rw [HL.out]; exact List.take_length
         rw [e2]
         rfl
end
section
open Go.RowKit Go.Deep Qm.Glob
attribute [local go_sem] bt_eq
def riCell (kind c : Nat) (nt : Bool) (vlo vhi : Value) (i : Nat) : Value :=
 if i = 0 then .int .i64 kind else if i = 1 then .int .u8 c else if i = 2 then .bool nt else if i = 3 then vlo else vhi
theorem ri_new (w : World) (kind c : Nat) (nt : Bool) (vlo vhi : Value) : (w.alloc (.cells #[.int .i64 kind, .int .u8 c, .bool nt, vlo, vhi] 178)).rowIs w.heap.size 178 5 (riCell kind c nt vlo vhi) :=
 World.rowIs_alloc _ _ _ _ fun i hi => by
   have hi : i < 5 := hi
   have h : i = 0 ∨ i = 1 ∨ i = 2 ∨ i = 3 ∨ i = 4 := by omega
   rcases h with rfl | rfl | rfl | rfl | rfl <;> rfl
theorem ri_cells {w : World} {g t : Nat} {kind c : Nat} {nt : Bool} {vlo vhi : Value} (h : w.rowIs g t 5 (riCell kind c nt vlo vhi)) :
   w.cell? ⟨g, 0, none⟩ = some (.int .i64 kind) ∧ w.cell? ⟨g, 1, none⟩ = some (.int .u8 c) ∧ w.cell? ⟨g, 2, none⟩ = some (.bool nt) ∧ w.cell? ⟨g, 3, none⟩ = some vlo ∧ w.cell? ⟨g, 4, none⟩ = some vhi :=
 ⟨h.cell (i := 0) (by omega), h.cell (i := 1) (by omega), h.cell (i := 2) (by omega), h.cell (i := 3) (by omega), h.cell (i := 4) (by omega)⟩
def ri5 (w : World) (g kind c : Nat) (nt : Bool) (vlo vhi : Value) : World :=
 ((((w.setCell ⟨g, 0, none⟩ (.int .i64 kind)).setCell ⟨g, 1, none⟩ (.int .u8 c)).setCell ⟨g, 2, none⟩ (.bool nt)).setCell ⟨g, 3, none⟩ vlo).setCell ⟨g, 4, none⟩ vhi
theorem ri5_row {w : World} {g t : Nat} {f : Nat → Value} (h : w.rowIs g t 5 f) (kind c : Nat) (nt : Bool) (vlo vhi : Value) : (ri5 w g kind c nt vlo vhi).rowIs g t 5 (riCell kind c nt vlo vhi) :=
 (((((h.set 0 _).set 1 _).set 2 _).set 3 _).set 4 _).congr fun i hi => by
   have h : i = 0 ∨ i = 1 ∨ i = 2 ∨ i = 3 ∨ i = 4 := by omega
   rcases h with rfl | rfl | rfl | rfl | rfl <;> rfl
theorem ri5_gb (w : World) (g kind c : Nat) (nt : Bool) (vlo vhi : Value) : w.grownBy (ri5 w g kind c nt vlo vhi) (some g) :=
 gb_setCell (gb_setCell (gb_setCell (gb_setCell (gb_setCell (World.grownBy.refl w _) _ _) _ _) _ _) _ _) _ _
theorem ret_set {a : Act} {W : World} {g : Nat} {kind c : Nat} {nt : Bool} {vlo vhi : Value} (v5 v6 : Value) (hr : W.rowIs g 178 5 (riCell kind c nt vlo vhi))
   (h4 : a.tmps.getD 4 undef = .pointer (some ⟨g, 0, none⟩)) (h5 : a.tmps.getD 5 undef = v5) (h6 : a.tmps.getD 6 undef = v6) :
   (results Tryz.f175 a.tmps).run Tryz.prog W = .ok (.tuple #[.agg #[.int .i64 kind, .int .u8 c, .bool nt, vlo, vhi], v5, v6]) W := by
 obtain ⟨c0, c1, c2, c3, c4⟩ := ri_cells hr
 simp only [results, Tryz.results175]
 simp only [Array.getD_eq_getD_getElem?] at h4 h5 h6
 simp [go_sem, h4, h5, h6, c0, c1, c2, c3, c4]
structure SetMem (w : World) (nt : Bool) (lo hi : List Nat) (vlo vhi : Value) (wr : World) : Prop where
 r0 : wr.rowIs w.heap.size 178 5 (riCell 0 0 false (.slice none 0 0) (.slice none 0 0))
 r1 : wr.rowIs (w.heap.size + 1) 178 5 (riCell 3 0 nt vlo vhi)
 olo : OwnB wr w.heap.size vlo lo
 ohi : OwnB wr w.heap.size vhi hi
 ne : ∀ k, vlo.ownBlock = some k → vhi.ownBlock = some k → False
 hb : Below w.heap.size w wr
theorem mem_app {w wr w1 : World} {l m : List Nat} {v u v1 : Value} {a : Nat} {nt : Bool} {vlo vhi : Value} (r0 : wr.rowIs w.heap.size 178 5 (riCell 0 0 false (.slice none 0 0) (.slice none 0 0))) (r1 : wr.rowIs (w.heap.size + 1) 178 5 (riCell 3 0 nt vlo vhi))
   (ov : OwnB wr w.heap.size v l) (ou : OwnB wr w.heap.size u m) (ne : ∀ k, v.ownBlock = some k → u.ownBlock = some k → False) (hb : Below w.heap.size w wr)
   (_ : OwnB w1 w.heap.size v1 (l ++ [a])) (hg : (wr.alloc (.cells #[.int .u8 (a : Nat)] 5)).grownBy w1 v.ownBlock) (hat : v1.ownBlock = v.ownBlock ∨ v1.ownBlock = some (wr.heap.size + 1)) :
   w1.rowIs w.heap.size 178 5 (riCell 0 0 false (.slice none 0 0) (.slice none 0 0)) ∧ w1.rowIs (w.heap.size + 1) 178 5 (riCell 3 0 nt vlo vhi) ∧ OwnB w1 w.heap.size u m ∧ (∀ k, v1.ownBlock = some k → u.ownBlock = some k → False) ∧ Below w.heap.size w w1 := by
 have n0 := own_row_ne ov r0 (by decide)
 have n1 := own_row_ne ov r1 (by decide)
 refine ⟨(r0.alloc _).of_block (hg.block _ (r0.alloc _).lt (Ne.symm n0)), (r1.alloc _).of_block (hg.block _ (r1.alloc _).lt (Ne.symm n1)), ?_, ?_, ?_⟩
 · refine World.ownsRow.kept (ou.alloc _) hg ?_
   rcases h : u.ownBlock with _ | k
   · exact .inl rfl
   · exact .inr (fun e => ne k e.symm h)
 · intro k h1 h2
   rcases hat with e | e
   · exact ne k (e.symm.trans h1) h2
   · have := (ou.lt k h2).2
     rw [e] at h1
     injection h1 with h1
     omega
 · exact (hb.alloc hb.size _).grown hg (by have := hb.size; simp; omega) (fun k hk => (ov.lt k hk).1)
theorem SetMem.app_lo {w wr w1 : World} {lo hi : List Nat} {vlo vhi v1 : Value} {a : Nat} {nt : Bool} (h : SetMem w nt lo hi vlo vhi wr)
   (ho : OwnB w1 w.heap.size v1 (lo ++ [a])) (hg : (wr.alloc (.cells #[.int .u8 (a : Nat)] 5)).grownBy w1 vlo.ownBlock) (hat : v1.ownBlock = vlo.ownBlock ∨ v1.ownBlock = some (wr.heap.size + 1)) :
   w1.cell? ⟨w.heap.size + 1, 3, none⟩ = some vlo ∧ w1.frozen? ⟨w.heap.size + 1, 3, none⟩ = false ∧ w1.cell? ⟨w.heap.size + 1, 4, none⟩ = some vhi ∧ SetMem w nt (lo ++ [a]) hi v1 vhi (w1.setCell ⟨w.heap.size + 1, 3, none⟩ v1) := by
 obtain ⟨r0, r1, ou, ne, hb⟩ := mem_app h.r0 h.r1 h.olo h.ohi h.ne h.hb ho hg hat
 refine ⟨r1.cell (i := 3) (by omega), r1.frozen 3, r1.cell (i := 4) (by omega), r0.setOther (by simp) _, (r1.set 3 _).congr (fun i hi => ?_), own_setCell_row ho r1 (by decide) _ _, own_setCell_row ou r1 (by decide) _ _, ne, hb.setCell (by simp) _⟩
 have h : i = 0 ∨ i = 1 ∨ i = 2 ∨ i = 3 ∨ i = 4 := by omega
 rcases h with rfl | rfl | rfl | rfl | rfl <;> rfl
theorem SetMem.app_hi {w wr w1 : World} {lo hi : List Nat} {vlo vhi v1 : Value} {a : Nat} {nt : Bool} (h : SetMem w nt lo hi vlo vhi wr)
   (ho : OwnB w1 w.heap.size v1 (hi ++ [a])) (hg : (wr.alloc (.cells #[.int .u8 (a : Nat)] 5)).grownBy w1 vhi.ownBlock) (hat : v1.ownBlock = vhi.ownBlock ∨ v1.ownBlock = some (wr.heap.size + 1)) :
   w1.cell? ⟨w.heap.size + 1, 4, none⟩ = some vhi ∧ w1.frozen? ⟨w.heap.size + 1, 4, none⟩ = false ∧ SetMem w nt lo (hi ++ [a]) vlo v1 (w1.setCell ⟨w.heap.size + 1, 4, none⟩ v1) := by
 obtain ⟨r0, r1, ou, ne, hb⟩ := mem_app h.r0 h.r1 h.ohi h.olo (fun k a b => h.ne k b a) h.hb ho hg hat
 refine ⟨r1.cell (i := 4) (by omega), r1.frozen 4, r0.setOther (by simp) _, (r1.set 4 _).congr (fun i hi => ?_), own_setCell_row ou r1 (by decide) _ _, own_setCell_row ho r1 (by decide) _ _, fun k a b => ne k b a, hb.setCell (by simp) _⟩
 have h : i = 0 ∨ i = 1 ∨ i = 2 ∨ i = 3 ∨ i = 4 := by omega
 rcases h with rfl | rfl | rfl | rfl | rfl <;> rfl
theorem own_slice {w : World} {base : Nat} {v : Value} {l : List Nat} (h : OwnB w base v l) : ∃ A c, v = .slice A l.length c := by
 rcases h.2 with ⟨rfl, hn⟩ | ⟨g, cap, cur, rfl, _⟩
 · exact ⟨none, 0, by rw [hn]⟩
 · exact ⟨_, cap, rfl⟩
theorem own_sliceN {w : World} {base n : Nat} {v : Value} {l : List Nat} (h : OwnB w base v l) (hn : l.length = n) : ∃ A c, v = .slice A n c := by
 subst hn; exact own_slice h
theorem slice_set (w : World) (p : Addr) (u : Value) : Value.slice (some ⟨w.heap.size, 0, none⟩) 1 1 = Value.slice (some ⟨(w.setCell p u).heap.size, 0, none⟩) 1 1 := by simp
structure SetRel (s : ByteArray) (i : Nat) (w : World) (k : Nat) (first : Bool) (f : Nat) (lo hi : List Nat) (vlo vhi : Value) (wr : World) : Prop where
 hk : k ≤ s.size
 hf : s.size < f + k
 hR : rSet (bt s) s.size f first k lo hi = rSetOf (bt s) s.size i
 hl : lo.length = hi.length
 hlk : lo.length ≤ k
 mem : SetMem w (brNt (bt s) s.size i) lo hi vlo vhi wr
theorem rset_any (s : ByteArray) (i : Nat) (w : World) (hs : s.size ≤ 1000) (hi : i ≤ s.size) :
   Calls Tryz.prog 175 #[.string s, .int .i64 i] w fun e w' => ∃ vlo vhi,
     e = .returned (.tuple #[.agg #[.int .i64 (3 : Nat), .int .u8 (0 : Nat), .bool (brNt (bt s) s.size i), vlo, vhi], .int .i64 ((rSetOf (bt s) s.size i).2.2 + 1 : Nat), .bool (decide ((rSetOf (bt s) s.size i).2.2 < s.size))]) ∧
     OwnB w' w.heap.size vlo (rSetOf (bt s) s.size i).1 ∧ OwnB w' w.heap.size vhi (rSetOf (bt s) s.size i).2.1 ∧ Below w.heap.size w w' := by
 have hn0 := (ri_new w 0 0 false (.slice none 0 0) (.slice none 0 0)).alloc (.cells #[.int .i64 (3 : Nat), .int .u8 (0 : Nat), .bool false, .slice none 0 0, .slice none 0 0] 178)
 have hn1 := ri_new (w.alloc (.cells #[.int .i64 (0 : Nat), .int .u8 (0 : Nat), .bool false, .slice none 0 0, .slice none 0 0] 178)) 3 0 false (.slice none 0 0) (.slice none 0 0)
 rw [show (w.alloc (.cells #[.int .i64 (0 : Nat), .int .u8 (0 : Nat), .bool false, .slice none 0 0, .slice none 0 0] 178)).heap.size = w.heap.size + 1 from by simp] at hn1
 have hc2 := hn1.cell (i := 2) (by omega)
 have hf2 := hn1.frozen 2
 have HN0 := hide hn0
 have HN1 := hide hn1
 clear hn0 hn1
 go_enter Tryz.func175, Tryz.ntmps175
 go_upto_region 2 with (fail)
 go_cut [23] from 14 to 23 (fun s23 wx => s23 = .bool (brNt (bt s) s.size i) ∧ wx.rowIs w.heap.size 178 5 (riCell 0 0 false (.slice none 0 0) (.slice none 0 0)) ∧ wx.rowIs (w.heap.size + 1) 178 5 (riCell 3 0 false (.slice none 0 0) (.slice none 0 0)) ∧ Below w.heap.size w wx)
 case first =>
   go_wp2
   all_goals go_meet
   all_goals refine ⟨?_, HN0.out, HN1.out, ((Below.refl _ _).alloc (Nat.le_refl _) _).alloc (by simp) _⟩
   all_goals
     go_light
     clear HN0 HN1
     simp only [brNt]
   · rename_i h
     simp only [h, decide_true, Bool.true_and]
     congr 1
     rw [Bool.eq_iff_iff]
     simp only [beq_iff_eq]
     omega
   · have h : (decide (i < s.size)) = false := by simp; omega
     simp [h]
 case rest =>
   obtain ⟨rfl, hr0, hr1, hb⟩ := hcut
   have HR0 := hide hr0
   have HR1 := hide hr1
   have HB := hide hb
   have hc2 := hr1.cell (i := 2) (by omega)
   have hf2 := hr1.frozen 2
   clear hr0 hr1 hb HN0 HN1
   go_upto_if 23 with (fail)
   go_cut [1] from 24 to 26 (fun s1 wx => s1 = .int .i64 (brAt (bt s) s.size i) ∧ wx.rowIs w.heap.size 178 5 (riCell 0 0 false (.slice none 0 0) (.slice none 0 0)) ∧ wx.rowIs (w.heap.size + 1) 178 5 (riCell 3 0 (brNt (bt s) s.size i) (.slice none 0 0) (.slice none 0 0)) ∧ Below w.heap.size w wx)
   case first =>
     go_wp2
     all_goals go_meet
     · rename_i h
       refine ⟨?_, HR0.out.setOther (by simp) _, (HR1.out.set 2 _).congr (fun q hq => ?_), HB.out.setCell (by simp) _⟩
       · go_light
         simp only [brAt, h]
         simp
       · go_light
         rw [h]
         have h : q = 0 ∨ q = 1 ∨ q = 2 ∨ q = 3 ∨ q = 4 := by omega
         rcases h with rfl | rfl | rfl | rfl | rfl <;> rfl
     · rename_i h
       refine ⟨?_, HR0.out, HR1.out.congr (fun q hq => ?_), HB.out⟩
       · go_light
         simp only [brAt, h]
         simp
       · go_light
         rw [h]
   case rest =>
     obtain ⟨rfl, hr0, hr1, hb⟩ := hcut
     have hle : brAt (bt s) s.size i ≤ s.size := by unfold brAt brNt; split <;> simp_all <;> omega
     have HM := hide (show SetMem w (brNt (bt s) s.size i) [] [] (.slice none 0 0) (.slice none 0 0) wc from ⟨hr0, hr1, World.ownsRow_nil _ _ _ _, World.ownsRow_nil _ _ _ _, fun k h => by simp [Value.ownBlock] at h, hb⟩)
     clear hr0 hr1 hb HR0 HR1 HB
     go_wp2
     go_loopw [1, 8] (fun v1 v8 wr => ∃ (k : Nat) (first : Bool) (f : Nat) (lo hi : List Nat) (vlo vhi : Value), v1 = .int .i64 k ∧ v8 = .bool first ∧ SetRel s i w k first f lo hi vlo vhi wr) (fun v1 _ _ => s.size - (intOf v1).toNat)
     case atStart => exact ⟨_, _, s.size + 1 - brAt (bt s) s.size i, [], [], _, _, rfl, rfl, hle, by omega, rfl, rfl, by simp, HM.out⟩
     case round =>
       clear HM
       obtain ⟨k, first, f, lo, hi', vlo, vhi, rfl, rfl, hk, hf, hR, hll, hlk, hm⟩ := hrel
       have HR := hide hR
       have HL := hide hll
       have HM := hide hm
       clear hR hll hm
       obtain ⟨Al, cl, rfl⟩ := own_slice HM.out.olo
       obtain ⟨Ah, ch, rfl⟩ := own_slice HM.out.ohi
       by_cases hc : k < s.size ∧ (first = true ∨ bt s k ≠ 93)
       · obtain ⟨f, rfl⟩ : ∃ f', f = f' + 1 := ⟨f - 1, by omega⟩
         have hlt := hc.1
         have hhl : hi'.length ≤ k := by have := HL.out; omega
         have HC := hide hc
         go_upto_region 6 with (fail)
         go_cut [39] from 27 to 39 (fun s39 wx => s39 = .bool true ∧ wr = wx)
         case first =>
           cases first with
           | true =>
             clear hc
             go_wp2
             go_meet
             exact ⟨rfl, rfl⟩
           | false =>
             have g1 : (((bt s k : Nat) : Int) != 93) = true := by
               have := hc.2
               simp only [Bool.false_eq_true, false_or] at this
               simp only [bne_iff_ne]; omega
             clear hc
             go_wp2
             go_meet
             exact ⟨rfl, rfl⟩
         case rest =>
           clear hc
           obtain ⟨rfl, hw⟩ := hcut
           subst hw
           go_wp2_with fail
           refine (rone_any s k _ hs hlt).mono ?_
           rintro e w1 ⟨rfl, rfl⟩
           obtain ⟨hm1, hm2, hm3⟩ := rOne_le (t := bt s) hlt
           generalize ha : (rOne (bt s) s.size k).1 = a
           generalize hmm : (rOne (bt s) s.size k).2 = m at hm1 hm2 hm3
           have HA := hide ha
           have HMM := hide hmm
           clear ha hmm
           by_cases hrg : k + m + 1 < s.size ∧ bt s (k + m) = 45 ∧ bt s (k + m + 1) ≠ 93
           · skip
             obtain ⟨g1, g2, g3⟩ := hrg
             have HG := hide (show k + m + 1 < s.size ∧ bt s (k + m) = 45 ∧ bt s (k + m + 1) ≠ 93 from ⟨g1, g2, g3⟩)
             have g4 : (((bt s (k + m) : Nat) : Int) == 45) = true := by simp only [beq_iff_eq]; omega
             have g5 : (((bt s (k + m + 1) : Nat) : Int) != 93) = true := by simp only [bne_iff_ne]; omega
             clear g2 g3
             go_wp2_with fail
             refine (rone_any s (k + m + 1) _ hs g1).mono ?_
             rintro e w1 ⟨rfl, rfl⟩
             obtain ⟨hn1, hn2, hn3⟩ := rOne_le (t := bt s) g1
             generalize hb2 : (rOne (bt s) s.size (k + m + 1)).1 = b
             generalize hnn : (rOne (bt s) s.size (k + m + 1)).2 = n at hn1 hn2 hn3
             have HB2 := hide hb2
             have HNN := hide hnn
             clear hb2 hnn
             have x3 := (ri_cells HM.out.r1).2.2.2.1
             go_wp2_with (first
               | (at_builtin; refine wpList_appB wr ?_ (.tmp 79) (.tmp 81) ?_ w.heap.size (.slice Al lo.length cl) lo ?_ HM.out.olo a ?_ ?_ ?_ ?_; exact rfl; exact rfl; exact rfl; exact rfl; omega; exact HM.out.hb.size; intro v1 w1 ho1 hg1 hb1; obtain ⟨A1, q1, rfl⟩ := own_sliceN (n := lo.length + 1) ho1 (by simp); obtain ⟨e3, f3, e4, m1⟩ := HM.out.app_lo ho1 hg1 hb1; have HM1 := hide m1; clear m1 ho1 hg1 hb1)
               | (at_builtin; refine wpList_appB (w1.setCell ⟨w.heap.size + 1, 3, none⟩ (.slice A1 (lo.length + 1) q1)) ?_ (.tmp 85) (.tmp 87) ?_ w.heap.size (.slice Ah hi'.length ch) hi' ?_ HM1.out.ohi b ?_ ?_ ?_ ?_; exact rfl; exact rfl; exact rfl; exact slice_set _ _ _; omega; exact HM1.out.hb.size; intro v2 w2 ho2 hg2 hb2; obtain ⟨A2, q2, rfl⟩ := own_sliceN (n := hi'.length + 1) ho2 (by simp); obtain ⟨d3, g3, m2⟩ := HM1.out.app_hi ho2 hg2 hb2; have HM2 := hide m2; clear m2 ho2 hg2 hb2))
             go_roundw
             case rel =>
               refine ⟨k + m + 1 + n, false, f, lo ++ [a], hi' ++ [b], _, _, by go_num, rfl, by omega, by omega, ?_, by simp [HL.out], by simp; omega, HM2.out⟩
               rw [← HR.out, rSet, if_pos HC.out, HA.out, HMM.out, if_pos HG.out, HB2.out, HNN.out]
             case measure => simp [intOf]; omega
           · skip
             have HG := hide hrg
             go_upto_region 10 with (fail)
             go_cut [66] from 49 to 66 (fun s66 wx => s66 = .bool false ∧ wr = wx)
             case first =>
               by_cases g1 : k + m + 1 < s.size
               · by_cases g2 : bt s (k + m) = 45
                 · have g3 : bt s (k + m + 1) = 93 := by
                     rcases Nat.decEq (bt s (k + m + 1)) 93 with e | e
                     · exact absurd ⟨g1, g2, e⟩ hrg
                     · exact e
                   have g4 : (((bt s (k + m) : Nat) : Int) == 45) = true := by simp only [beq_iff_eq]; omega
                   have g5 : (((bt s (k + m + 1) : Nat) : Int) != 93) = false := by simp only [bne_eq_false_iff_eq]; omega
                   clear hrg g2 g3
                   go_wp2
                   go_meet
                   exact ⟨rfl, rfl⟩
                 · have g4 : (((bt s (k + m) : Nat) : Int) == 45) = false := by simp only [beq_eq_false_iff_ne]; omega
                   clear hrg g2
                   go_wp2
                   go_meet
                   exact ⟨rfl, rfl⟩
               · clear hrg
                 go_wp2
                 go_meet
                 exact ⟨rfl, rfl⟩
             case rest =>
               clear hrg
               obtain ⟨rfl, hw⟩ := hcut
               subst hw
               have x3 := (ri_cells HM.out.r1).2.2.2.1
               go_wp2_with (first
                 | (at_builtin; refine wpList_appB wr ?_ (.tmp 91) (.tmp 93) ?_ w.heap.size (.slice Al lo.length cl) lo ?_ HM.out.olo a ?_ ?_ ?_ ?_; exact rfl; exact rfl; exact rfl; exact rfl; omega; exact HM.out.hb.size; intro v1 w1 ho1 hg1 hb1; obtain ⟨A1, q1, rfl⟩ := own_sliceN (n := lo.length + 1) ho1 (by simp); obtain ⟨e3, f3, e4, m1⟩ := HM.out.app_lo ho1 hg1 hb1; have HM1 := hide m1; clear m1 ho1 hg1 hb1)
                 | (at_builtin; refine wpList_appB (w1.setCell ⟨w.heap.size + 1, 3, none⟩ (.slice A1 (lo.length + 1) q1)) ?_ (.tmp 97) (.tmp 99) ?_ w.heap.size (.slice Ah hi'.length ch) hi' ?_ HM1.out.ohi a ?_ ?_ ?_ ?_; exact rfl; exact rfl; exact rfl; exact slice_set _ _ _; omega; exact HM1.out.hb.size; intro v2 w2 ho2 hg2 hb2; obtain ⟨A2, q2, rfl⟩ := own_sliceN (n := hi'.length + 1) ho2 (by simp); obtain ⟨d3, g3, m2⟩ := HM1.out.app_hi ho2 hg2 hb2; have HM2 := hide m2; clear m2 ho2 hg2 hb2))
               go_roundw
               case rel =>
                 refine ⟨k + m, false, f, lo ++ [a], hi' ++ [a], _, _, by go_num, rfl, by omega, by omega, ?_, by simp [HL.out], by simp; omega, HM2.out⟩
                 rw [← HR.out, rSet, if_pos HC.out, HA.out, HMM.out, if_neg HG.out]
               case measure => simp [intOf]; omega
       · skip
         have HRe := hide (show rSetOf (bt s) s.size i = (lo, hi', k) by rw [← HR.out]; cases f <;> simp only [rSet]; rw [if_neg hc])
         obtain ⟨c0, c1, c2, c3, c4⟩ := ri_cells HM.out.r0
         obtain ⟨d0, d1, d2, d3, d4⟩ := ri_cells HM.out.r1
         have hf0 := HM.out.r0.frozen
         have hfin := hide (ri5_row HM.out.r0 3 0 (brNt (bt s) s.size i) (.slice Al lo.length cl) (.slice Ah hi'.length ch))
         have hgb := hide (ri5_gb wr w.heap.size 3 0 (brNt (bt s) s.size i) (.slice Al lo.length cl) (.slice Ah hi'.length ch))
         have HOL := hide (World.ownsRow.kept HM.out.olo (ri5_gb wr w.heap.size 3 0 (brNt (bt s) s.size i) (.slice Al lo.length cl) (.slice Ah hi'.length ch)) (.inr (own_row_ne HM.out.olo HM.out.r0 (by decide))))
         have HOH := hide (World.ownsRow.kept HM.out.ohi (ri5_gb wr w.heap.size 3 0 (brNt (bt s) s.size i) (.slice Al lo.length cl) (.slice Ah hi'.length ch)) (.inr (own_row_ne HM.out.ohi HM.out.r0 (by decide))))
         have HBB := hide (HM.out.hb.trans (below_of_gb (ri5_gb wr w.heap.size 3 0 (brNt (bt s) s.size i) (.slice Al lo.length cl) (.slice Ah hi'.length ch)) HM.out.hb.size (Nat.le_refl _)))
         by_cases hlt : k < s.size
         · have hff : first = false := by
             cases first with
             | false => rfl
             | true => exact absurd ⟨hlt, .inl rfl⟩ hc
           subst hff
           have h93 : bt s k = 93 := by
             rcases Nat.decEq (bt s k) 93 with e | e
             · exact absurd ⟨hlt, .inr e⟩ hc
             · exact e
           have g1 : (((bt s k : Nat) : Int) != 93) = false := by simp only [bne_eq_false_iff_eq]; omega
           clear hc h93
           go_wp2
           refine bodyPost_ret (ret_set _ _ hfin.out rfl rfl rfl) rfl ⟨.slice Al lo.length cl, .slice Ah hi'.length ch, ?_, ?_, ?_, ?_⟩
           · rw [HRe.out]; simp [hlt]
           · rw [HRe.out]; exact HOL.out
           · rw [HRe.out]; exact HOH.out
           · exact HBB.out
         · clear hc
           go_wp2
           refine bodyPost_ret (ret_set _ _ hfin.out rfl rfl rfl) rfl ⟨.slice Al lo.length cl, .slice Ah hi'.length ch, ?_, ?_, ?_, ?_⟩
           · rw [HRe.out]; simp [hlt]
           · rw [HRe.out]; exact HOL.out
           · rw [HRe.out]; exact HOH.out
           · exact HBB.out
end
section
open Go.RowKit Go.Deep Qm.Glob
attribute [local go_sem] bt_eq
def riVals (x : RI) (vlo vhi : Value) : List Value := [.int .i64 x.kind, .int .u8 x.c, .bool x.nt, vlo, vhi]
def RIs (w : World) (base : Nat) : List RI → List Value → Prop
 | [], xs => xs = []
 | x :: l, xs => ∃ vlo vhi rest, xs = riVals x vlo vhi ++ rest ∧ OwnB w base vlo x.lo ∧ OwnB w base vhi x.hi ∧ RIs w base l rest
theorem RIs_keep {w w' : World} {base : Nat} (h : ∀ v m, OwnB w base v m → OwnB w' base v m) : ∀ (l : List RI) (xs : List Value), RIs w base l xs → RIs w' base l xs
 | [], _, hx => hx
 | _ :: l, _, ⟨vlo, vhi, rest, e, h1, h2, h3⟩ => ⟨vlo, vhi, rest, e, h _ _ h1, h _ _ h2, RIs_keep h l rest h3⟩
theorem RIs_snoc {w : World} {base : Nat} {x : RI} {vlo vhi : Value} (h1 : OwnB w base vlo x.lo) (h2 : OwnB w base vhi x.hi) : ∀ (l : List RI) (xs : List Value), RIs w base l xs → RIs w base (l ++ [x]) (xs ++ riVals x vlo vhi)
 | [], xs, hx => ⟨vlo, vhi, [], by rw [show xs = [] from hx]; rfl, h1, h2, rfl⟩
 | _ :: l, _, ⟨a, b, rest, e, g1, g2, g3⟩ => ⟨a, b, rest ++ riVals x vlo vhi, by rw [e, List.append_assoc], g1, g2, RIs_snoc h1 h2 l rest g3⟩
theorem RIs_get {w : World} {base : Nat} : ∀ (l : List RI) (xs : List Value), RIs w base l xs → ∀ k x, l[k]? = some x → ∃ vlo vhi, OwnB w base vlo x.lo ∧ OwnB w base vhi x.hi ∧ ∀ j u, (riVals x vlo vhi)[j]? = some u → xs[k * 5 + j]? = some u
 | [], _, _, k, x, h => by simp at h
 | y :: l, xs, ⟨a, b, rest, e, g1, g2, g3⟩, k, x, h => by
   subst e
   cases k with
   | zero =>
     simp at h
     subst h
     refine ⟨a, b, g1, g2, fun j u hu => ?_⟩
     have hj := (List.getElem?_eq_some_iff.1 hu).1
     rw [List.getElem?_append_left (by simpa [riVals] using hj)]
     simpa using hu
   | succ k =>
     obtain ⟨c, d, q1, q2, q3⟩ := RIs_get l rest g3 k x (by simpa using h)
     refine ⟨c, d, q1, q2, fun j u hu => ?_⟩
     rw [List.getElem?_append_right (by simp [riVals]; omega), show (k + 1) * 5 + j - (riVals y a b).length = k * 5 + j from by simp [riVals]; omega]
     exact q3 j u hu
theorem info51 : (Tryz.prog.info? 178).map (fun i => (i.zero, i.size, i.bytes)) = some (some (.agg #[.int .i64 0, .int .u8 0, .bool false, .slice none 0 0, .slice none 0 0]), 5, 64) := by kernel_rfl
theorem wpList_appR {ops : Array Oper} {rest : List Oper} {o : Oper} {a : Act} {Q : Exit → Act → World → Prop} (wr w0 : World) (hgd : o.guard = none) (s x : Operand)
   (ho : o.op = .call { callee := .builtin .append, args := #[s, x], argTypes := #[175, 175] }) (v : Value) (acc : List RI) (xs : List Value) (hs : a.eval s = v)
   (hown : wr.ownsRow w0.heap.size 178 5 v acc.length xs) (hris : RIs wr w0.heap.size acc xs) (hB : Below w0.heap.size w0 wr) (it : RI) (vlo vhi : Value)
   (hlo : OwnB wr w0.heap.size vlo it.lo) (hhi : OwnB wr w0.heap.size vhi it.hi)
   (hx : a.eval x = .slice (some ⟨wr.heap.size, 0, none⟩) 1 1) (hl : acc.length ≤ 1000)
   (h : ∀ v' w', w'.ownsRow w0.heap.size 178 5 v' (acc ++ [it]).length (xs ++ riVals it vlo vhi) → RIs w' w0.heap.size (acc ++ [it]) (xs ++ riVals it vlo vhi) → Below w0.heap.size w0 w' → wpList Tryz.prog ops Q rest (a.put o.dst v') w') :
   wpList Tryz.prog ops Q (o :: rest) a (wr.alloc (.cells #[.int .i64 it.kind, .int .u8 it.c, .bool it.nt, vlo, vhi] 178)) := by
 obtain ⟨i0, hi, hz0, hz1, hz2⟩ := info_parts info51
 have h1 : ∀ u ∈ (#[.int .i64 it.kind, .int .u8 it.c, .bool it.nt, vlo, vhi] : Array Value).toList, u.oneCell' = true := by
   obtain ⟨A, c, rfl⟩ := own_slice hlo
   obtain ⟨B, d, rfl⟩ := own_slice hhi
   intro u hu
   simp only [List.mem_cons, List.not_mem_nil, or_false] at hu
   rcases hu with rfl | rfl | rfl | rfl | rfl <;> rfl
 refine wpList_app1at wr hgd s x 175 ho w0.heap.size 178 i0 _ 5 64 Tryz.underlying175 hi hz0 hz1 hz2 rfl (by omega) v acc.length xs hs hown _ 1 hx rfl h1
   (by simp only [maxLen]; omega) (by omega) hB.size ?_
 intro v' w' ho' hg hat
 have hk : ∀ u m, OwnB wr w0.heap.size u m → OwnB w' w0.heap.size u m := fun u m hu => World.ownsRow.kept (World.ownsRow.alloc hu _) hg (own_own_ne hu hown (by decide))
 refine h v' w' ?_ (RIs_snoc (hk _ _ hlo) (hk _ _ hhi) _ _ (RIs_keep hk _ _ hris)) ?_
 · rw [List.length_append]; exact ho'
 · exact (hB.alloc hB.size _).grown hg (by have := hB.size; simp; omega) (fun k hk => (hown.lt k hk).1)
theorem own_base {w : World} {base base' : Nat} {v : Value} {l : List Nat} (h : OwnB w base' v l) (hb : base ≤ base') : OwnB w base v l :=
 ⟨h.1, h.2.imp id fun ⟨g, cap, cur, e, hg, r⟩ => ⟨g, cap, cur, e, Nat.le_trans hb hg, r⟩⟩
theorem slice_new' (w : World) (o : Obj) : Value.slice (some ⟨w.heap.size + 1, 0, none⟩) 1 1 = Value.slice (some ⟨(w.alloc o).heap.size, 0, none⟩) 1 1 := by simp
structure RItRel (s : ByteArray) (w : World) (k f : Nat) (acc : List RI) (xs : List Value) (v3 : Value) (wr : World) : Prop where
 hk : k ≤ s.size
 hf : s.size < f + k
 hal : acc.length ≤ k
 hR : acc ++ rIt (bt s) s.size f k = rItems (bt s) s.size
 own : wr.ownsRow w.heap.size 178 5 v3 acc.length xs
 ris : RIs wr w.heap.size acc xs
 hb : Below w.heap.size w wr
theorem RItRel.below {s : ByteArray} {w wr w1 : World} {k f : Nat} {acc : List RI} {xs : List Value} {v3 : Value} (h : RItRel s w k f acc xs v3 wr) (hb : Below wr.heap.size wr w1) : RItRel s w k f acc xs v3 w1 :=
 ⟨h.hk, h.hf, h.hal, h.hR, own_below h.own hb, RIs_keep (fun _ _ hu => own_below hu hb) _ _ h.ris, below_up h.hb hb h.hb.size⟩
theorem ritems_any (s : ByteArray) (w : World) (hs : s.size ≤ 1000) :
   Calls Tryz.prog 123 #[.string s] w fun e w' => ∃ v xs, e = .returned v ∧ w'.ownsRow w.heap.size 178 5 v (rItems (bt s) s.size).length xs ∧ RIs w' w.heap.size (rItems (bt s) s.size) xs ∧ Below w.heap.size w w' := by
 go_enter Tryz.func123, Tryz.ntmps123
 go_wp2
 go_loopw [3, 4] (fun v3 v4 wr => ∃ (k f : Nat) (acc : List RI) (xs : List Value), v4 = .int .i64 k ∧ RItRel s w k f acc xs v3 wr) (fun _ v4 _ => s.size - (intOf v4).toNat)
 case atStart => exact ⟨0, s.size + 1, [], [], rfl, by omega, by omega, by simp, rfl, World.ownsRow_nil _ _ _ _, rfl, Below.refl _ _⟩
 case round =>
   obtain ⟨k, f, acc, xs, rfl, hr⟩ := hrel
   have hk := hr.hk
   have hf := hr.hf
   have hal := hr.hal
   have HR := hide hr
   clear hr
   by_cases hlt : k < s.size
   · obtain ⟨f, rfl⟩ : ∃ f', f = f' + 1 := ⟨f - 1, by omega⟩
     by_cases h42 : bt s k = 42
     · skip
       have h1 : (((bt s k : Nat) : Int) == 42) = true := by simp only [beq_iff_eq]; omega
       have HH := hide h42
       clear h42
       go_wp2_with (at_builtin; refine wpList_appR wr w ?_ (.tmp 19) (.tmp 21) ?_ u3 acc xs ?_ HR.out.own HR.out.ris HR.out.hb rStar (.slice none 0 0) (.slice none 0 0) ?_ ?_ ?_ ?_ ?_; exact rfl; exact rfl; exact rfl; exact World.ownsRow_nil _ _ _ _; exact World.ownsRow_nil _ _ _ _; exact rfl; omega; intro v1 w1 ho1 hr1 hb1)
       go_roundw
       case rel =>
         refine ⟨k + 1, f, acc ++ [rStar], _, by go_num, by omega, by omega, by simp; omega, ?_, ho1, hr1, hb1⟩
         rw [← HR.out.hR, rIt, if_pos hlt, if_pos HH.out]
         simp
       case measure => simp [intOf]; omega
     · have g42 : (((bt s k : Nat) : Int) == 42) = false := by simp only [beq_eq_false_iff_ne]; omega
       by_cases h63 : bt s k = 63
       · skip
         have h1 : (((bt s k : Nat) : Int) == 63) = true := by simp only [beq_iff_eq]; omega
         have HH := hide h63
         have HH2 := hide h42
         clear h63 h42
         go_wp2_with (at_builtin; refine wpList_appR wr w ?_ (.tmp 27) (.tmp 29) ?_ u3 acc xs ?_ HR.out.own HR.out.ris HR.out.hb rAny (.slice none 0 0) (.slice none 0 0) ?_ ?_ ?_ ?_ ?_; exact rfl; exact rfl; exact rfl; exact World.ownsRow_nil _ _ _ _; exact World.ownsRow_nil _ _ _ _; exact rfl; omega; intro v1 w1 ho1 hr1 hb1)
         go_roundw
         case rel =>
           refine ⟨k + 1, f, acc ++ [rAny], _, by go_num, by omega, by omega, by simp; omega, ?_, ho1, hr1, hb1⟩
           rw [← HR.out.hR, rIt, if_pos hlt, if_neg HH2.out, if_pos HH.out]
           simp
         case measure => simp [intOf]; omega
       · have g63 : (((bt s k : Nat) : Int) == 63) = false := by simp only [beq_eq_false_iff_ne]; omega
         by_cases h91 : bt s k = 91
         · skip
           have h1 : (((bt s k : Nat) : Int) == 91) = true := by simp only [beq_iff_eq]; omega
           have HH := hide h91
           have HH2 := hide h42
           have HH3 := hide h63
           clear h91 h63 h42
           go_wp2_with fail
           refine (rset_any s (k + 1) _ hs (by omega)).mono ?_
           rintro e w1 ⟨vlo, vhi, rfl, hlo, hhi, hb1⟩
           obtain ⟨Al, cl, rfl⟩ := own_slice hlo
           obtain ⟨Ah, ch, rfl⟩ := own_slice hhi
           have HR1 := hide (HR.out.below hb1)
           generalize hlo2 : (rSetOf (bt s) s.size (k + 1)).1 = lo at hlo ⊢
           generalize hhi2 : (rSetOf (bt s) s.size (k + 1)).2.1 = hi at hhi ⊢
           generalize hj2 : (rSetOf (bt s) s.size (k + 1)).2.2 = j
           have HLO := hide (own_base hlo HR.out.hb.size)
           have HHI := hide (own_base hhi HR.out.hb.size)
           have HE1 := hide hlo2
           have HE2 := hide hhi2
           have HE3 := hide hj2
           clear hlo hhi hlo2 hhi2 hj2 hb1
           by_cases hset : j < s.size
           · generalize hd : decide (j < s.size) = d
             obtain rfl : d = true := by rw [← hd]; simp [hset]
             have HM1 := hide (HR1.out.own.alloc (.cells #[.int .i64 (3 : Nat), .int .u8 (0 : Nat), .bool (brNt (bt s) s.size (k + 1)), .slice Al lo.length cl, .slice Ah hi.length ch] 178))
             have HM2 := hide (RIs_keep (w' := w1.alloc (.cells #[.int .i64 (3 : Nat), .int .u8 (0 : Nat), .bool (brNt (bt s) s.size (k + 1)), .slice Al lo.length cl, .slice Ah hi.length ch] 178)) (fun _ _ hu => World.ownsRow.alloc hu _) _ _ HR1.out.ris)
             have HM3 := hide (HR1.out.hb.alloc HR1.out.hb.size (.cells #[.int .i64 (3 : Nat), .int .u8 (0 : Nat), .bool (brNt (bt s) s.size (k + 1)), .slice Al lo.length cl, .slice Ah hi.length ch] 178))
             have HM4 := hide (World.ownsRow.alloc HLO.out (.cells #[.int .i64 (3 : Nat), .int .u8 (0 : Nat), .bool (brNt (bt s) s.size (k + 1)), .slice Al lo.length cl, .slice Ah hi.length ch] 178))
             have HM5 := hide (World.ownsRow.alloc HHI.out (.cells #[.int .i64 (3 : Nat), .int .u8 (0 : Nat), .bool (brNt (bt s) s.size (k + 1)), .slice Al lo.length cl, .slice Ah hi.length ch] 178))
             clear hd
             go_wp2_with (at_builtin; refine wpList_appR _ w ?_ (.tmp 44) (.tmp 46) ?_ u3 acc xs ?_ HM1.out HM2.out HM3.out ⟨3, 0, brNt (bt s) s.size (k + 1), lo, hi⟩ (.slice Al lo.length cl) (.slice Ah hi.length ch) ?_ ?_ ?_ ?_ ?_; exact rfl; exact rfl; exact rfl; exact HM4.out; exact HM5.out; exact slice_new' _ _; omega; intro v1 w2 ho1 hr1 hb1)
             go_roundw
             case rel =>
               refine ⟨j + 1, f, acc ++ [⟨3, 0, brNt (bt s) s.size (k + 1), lo, hi⟩], _, by go_num, by omega, ?_, ?_, ?_, ho1, hr1, hb1⟩
               · have := rSetOf_ge (bt s) s.size (k + 1); rw [HE3.out] at this; omega
               · have := rSetOf_ge (bt s) s.size (k + 1); rw [HE3.out] at this; simp; omega
               · rw [← HR.out.hR, rIt, if_pos hlt, if_neg HH2.out, if_neg HH3.out, if_pos ⟨HH.out, by rw [HE3.out]; exact hset⟩, HE1.out, HE2.out, HE3.out]
                 simp
             case measure =>
               have := rSetOf_ge (bt s) s.size (k + 1); rw [HE3.out] at this
               simp [intOf]; omega
           · generalize hd : decide (j < s.size) = d
             obtain rfl : d = false := by rw [← hd]; simp [hset]
             clear hd
             have HM1 := hide (HR1.out.own.alloc (.cells #[.int .i64 (3 : Nat), .int .u8 (0 : Nat), .bool (brNt (bt s) s.size (k + 1)), .slice Al lo.length cl, .slice Ah hi.length ch] 178))
             have HM2 := hide (RIs_keep (w' := w1.alloc (.cells #[.int .i64 (3 : Nat), .int .u8 (0 : Nat), .bool (brNt (bt s) s.size (k + 1)), .slice Al lo.length cl, .slice Ah hi.length ch] 178)) (fun _ _ hu => World.ownsRow.alloc hu _) _ _ HR1.out.ris)
             have HM3 := hide (HR1.out.hb.alloc HR1.out.hb.size (.cells #[.int .i64 (3 : Nat), .int .u8 (0 : Nat), .bool (brNt (bt s) s.size (k + 1)), .slice Al lo.length cl, .slice Ah hi.length ch] 178))
             go_wp2_with fail
             refine (rone_any s k _ hs hlt).mono ?_
             rintro e w2 ⟨rfl, rfl⟩
             obtain ⟨hm1, hm2, hm3⟩ := rOne_le (t := bt s) hlt
             generalize ha : (rOne (bt s) s.size k).1 = a
             generalize hmm : (rOne (bt s) s.size k).2 = m at hm1 hm2 hm3
             have HA := hide ha
             have HMM := hide hmm
             clear ha hmm
             go_wp2_with (at_builtin; refine wpList_appR _ w ?_ (.tmp 55) (.tmp 58) ?_ u3 acc xs ?_ HM1.out HM2.out HM3.out (rByte a) (.slice none 0 0) (.slice none 0 0) ?_ ?_ ?_ ?_ ?_; exact rfl; exact rfl; exact rfl; exact World.ownsRow_nil _ _ _ _; exact World.ownsRow_nil _ _ _ _; exact slice_new' _ _; omega; intro v1 w2 ho1 hr1 hb1)
             go_roundw
             case rel =>
               refine ⟨k + m, f, acc ++ [rByte a], _, by go_num, by omega, by omega, by simp; omega, ?_, ho1, hr1, hb1⟩
               rw [← HR.out.hR, rIt, if_pos hlt, if_neg HH2.out, if_neg HH3.out, if_neg (fun h => hset (by rw [← HE3.out]; exact h.2)), HA.out, HMM.out]
               simp
             case measure => simp [intOf]; omega
         · skip
           have g91 : (((bt s k : Nat) : Int) == 91) = false := by simp only [beq_eq_false_iff_ne]; omega
           have HH2 := hide h42
           have HH3 := hide h63
           have HH := hide h91
           clear h91 h63 h42
           go_wp2_with fail
           refine (rone_any s k _ hs hlt).mono ?_
           rintro e w1 ⟨rfl, rfl⟩
           obtain ⟨hm1, hm2, hm3⟩ := rOne_le (t := bt s) hlt
           generalize ha : (rOne (bt s) s.size k).1 = a
           generalize hmm : (rOne (bt s) s.size k).2 = m at hm1 hm2 hm3
           have HA := hide ha
           have HMM := hide hmm
           clear ha hmm
           go_wp2_with (at_builtin; refine wpList_appR wr w ?_ (.tmp 55) (.tmp 58) ?_ u3 acc xs ?_ HR.out.own HR.out.ris HR.out.hb (rByte a) (.slice none 0 0) (.slice none 0 0) ?_ ?_ ?_ ?_ ?_; exact rfl; exact rfl; exact rfl; exact World.ownsRow_nil _ _ _ _; exact World.ownsRow_nil _ _ _ _; exact rfl; omega; intro v1 w1 ho1 hr1 hb1)
           go_roundw
           case rel =>
             refine ⟨k + m, f, acc ++ [rByte a], _, by go_num, by omega, by omega, by simp; omega, ?_, ho1, hr1, hb1⟩
             rw [← HR.out.hR, rIt, if_pos hlt, if_neg HH2.out, if_neg HH3.out, if_neg (fun h => HH.out h.1), HA.out, HMM.out]
             simp
           case measure => simp [intOf]; omega
   · go_wp2
     go_ret
     have hRn : acc = rItems (bt s) s.size := by rw [← HR.out.hR]; cases f <;> simp [rIt, hlt]
     subst hRn
     exact ⟨_, _, rfl, HR.out.own, HR.out.ris, HR.out.hb⟩
end
section
open Go.RowKit Go.Deep Qm.Glob
def RItemsAt (w : World) (A : Option Addr) (l : List RI) : Prop :=
 ∀ k x, l[k]? = some x → ∃ g vlo vhi, A = some ⟨g, 0, none⟩ ∧ g < w.heap.size ∧ (∀ j u, (riVals x vlo vhi)[j]? = some u → w.cell? ⟨g, k * 5 + j, none⟩ = some u) ∧ BytesAt w vlo x.lo ∧ BytesAt w vhi x.hi ∧ x.lo.length = x.hi.length ∧ x.lo.length ≤ 1000
theorem BytesAt.below {w w' : World} {v : Value} {l : List Nat} (h : BytesAt w v l) (hb : Below w.heap.size w w') : BytesAt w' v l := by
 obtain ⟨A, c, rfl, h⟩ := h
 refine ⟨A, c, rfl, fun k x hx => ?_⟩
 obtain ⟨g, rfl, hg, hc⟩ := h k x hx
 exact ⟨g, rfl, Nat.lt_of_lt_of_le hg hb.size, (hb.cell (p := ⟨g, k, none⟩) hg).trans hc⟩
theorem ritem_cells {w wr : World} {A : Option Addr} {l : List RI} (h : RItemsAt w A l) (hb : Below w.heap.size w wr) {k : Nat} {x : RI} (hx : l[k]? = some x) :
   ∃ g vlo vhi, A = some ⟨g, 0, none⟩ ∧ g < w.heap.size ∧ wr.cell? ⟨g, k * 5, none⟩ = some (.int .i64 x.kind) ∧ wr.cell? ⟨g, k * 5 + 1, none⟩ = some (.int .u8 x.c) ∧ wr.cell? ⟨g, k * 5 + 2, none⟩ = some (.bool x.nt) ∧
     wr.cell? ⟨g, k * 5 + 3, none⟩ = some vlo ∧ wr.cell? ⟨g, k * 5 + 4, none⟩ = some vhi ∧ BytesAt wr vlo x.lo ∧ BytesAt wr vhi x.hi ∧ x.lo.length = x.hi.length ∧ x.lo.length ≤ 1000 := by
 obtain ⟨g, vlo, vhi, rfl, hg, hc, h1, h2, h3, h4⟩ := h k x hx
 have e : ∀ q u, (riVals x vlo vhi)[q]? = some u → wr.cell? ⟨g, k * 5 + q, none⟩ = some u := fun q u hq => (hb.cell (p := ⟨g, k * 5 + q, none⟩) hg).trans (hc q u hq)
 exact ⟨g, vlo, vhi, rfl, hg, e 0 _ rfl, e 1 _ rfl, e 2 _ rfl, e 3 _ rfl, e 4 _ rfl, h1.below hb, h2.below hb, h3, h4⟩
def rStarAt (l : List RI) (k : Nat) : Bool := (l.getD k rStar).kind == 1
def rIsAt (l : List RI) (k c : Nat) : Bool := (l.getD k rStar).is c
theorem rStarAt_of {l : List RI} {j : Nat} {x : RI} (hx : l[j]? = some x) : rStarAt l j = (x.kind == 1) := by simp [rStarAt, List.getD_eq_getElem?_getD, hx]
theorem rIsAt_of {l : List RI} {j : Nat} {x : RI} (hx : l[j]? = some x) (c : Nat) : rIsAt l j c = x.is c := by simp [rIsAt, List.getD_eq_getElem?_getD, hx]
end
section
open Go.RowKit Go.Deep Qm.Glob
attribute [local go_sem] bt_eq
theorem fronts_any (s : ByteArray) (A : Option Addr) (c : Nat) (l : List RI) (w : World) (hs : s.size ≤ 1000) (hl : l.length ≤ 1000) (hat : RItemsAt w A l) :
   Calls Tryz.prog 233 #[.slice A l.length c, .string s] w fun e w' => ∃ g, e = .returned (.slice (some ⟨g, 0, none⟩) (s.size + 1) (s.size + 1)) ∧ w.heap.size ≤ g ∧
     w'.rowIs g 4 (s.size + 1) (fun i => .bool (E (rStarAt l) (rIsAt l) (bt s) l.length i)) ∧ Below w.heap.size w w' := by
 have HAT := hide hat
 clear hat
 have hmk := mk38 s.size (by omega)
 have hr1 := row0 w (s.size + 1) 4 (.bool true) (.bool false)
 have hc0 := (World.rowIs_made w (.bool false) (s.size + 1) 4).cell (i := 0) (by omega)
 have hf0 := (World.rowIs_made w (.bool false) (s.size + 1) 4).frozen 0
 have HR1 := hide hr1
 clear hr1
 go_enter Tryz.func233, Tryz.ntmps233
 go_wp2
 clear hc0 hf0
 go_loopw [5, 6] (fun v5 v6 wr => ∃ i g : Nat, v6 = .int .i64 i ∧ v5 = .slice (some ⟨g, 0, none⟩) (s.size + 1) (s.size + 1) ∧ i ≤ l.length ∧ w.heap.size ≤ g ∧ wr.rowIs g 4 (s.size + 1) (fun q => .bool (E (rStarAt l) (rIsAt l) (bt s) i q)) ∧
     Below w.heap.size w wr) (fun _ v6 _ => l.length - (intOf v6).toNat)
 case atStart =>
   refine ⟨0, w.heap.size, rfl, rfl, by omega, Nat.le_refl _, HR1.out.congr (fun q _ => ?_), (Below.refl _ _).alloc (Nat.le_refl _) _⟩
   cases q with
   | zero => rw [if_pos rfl, E00]
   | succ q => rw [if_neg (by omega), E0s]
 case round =>
   obtain ⟨i, g, rfl, rfl, hi, hg, hr, hb⟩ := hrel
   clear HR1
   have HR := hide hr
   have HB := hide hb
   clear hr hb
   by_cases hlt : i < l.length
   · obtain ⟨x, hx⟩ : ∃ x, l[i]? = some x := ⟨l[i], List.getElem?_eq_getElem hlt⟩
     have HX := hide hx
     clear hx
     have HRn := hide (World.rowIs_made wr (.bool false) (s.size + 1) 4)
     have hgw := HR.out.lt
     obtain ⟨wo, rfl⟩ : ∃ wo : World, wo = wr := ⟨_, rfl⟩
     go_wp2
     go_loopw [8] (fun v8 wx => ∃ k : Nat, v8 = .int .i64 k ∧ k ≤ s.size + 1 ∧ wx.rowIs g 4 (s.size + 1) (fun q => .bool (E (rStarAt l) (rIsAt l) (bt s) i q)) ∧
       wx.rowIs wo.heap.size 4 (s.size + 1) (fun q => if q < k then .bool (E (rStarAt l) (rIsAt l) (bt s) (i + 1) q) else .bool false) ∧ Below w.heap.size w wx) (fun v8 _ => s.size + 1 - (intOf v8).toNat)
     case atStart => exact ⟨0, rfl, by omega, HR.out.alloc _, HRn.out.congr (fun q _ => by rw [if_neg (by omega)]), HB.out.alloc HB.out.size _⟩
     case round =>
       have hgn := HB.out.size
       clear HR HRn
       obtain ⟨k, rfl, hk, hr1, hr2, hb⟩ := hrel
       clear HB
       have HR1 := hide hr1
       have HR2 := hide hr2
       have HB := hide hb
       clear hr1 hr2 hb
       by_cases hkm : k ≤ s.size
       · obtain ⟨ga, vlo, vhi, rfl, hga, c0, c1, c2, c3, c4, hlo, hhi, hle, hlb⟩ := ritem_cells HAT.out HB.out HX.out
         have hfr := HR2.out.frozen k
         have hck := HR2.out.cell (i := k) (by omega)
         rw [if_neg (by omega)] at hck
         have HL := hide hle
         have HLO := hide hlo
         have HHI := hide hhi
         have hsz := HB.out.size
         have hga2 : ga < wr.heap.size := by omega
         have hl1 := HR1.out.lt
         have hl2 := HR2.out.lt
         clear hle hlo hhi
         by_cases hkd : x.kind = 1
         · have g1 : ((x.kind : Int) == 1) = true := by simp [hkd]
           have HST := hide (show rStarAt l i = true by rw [rStarAt_of HX.out, hkd]; rfl)
           clear hkd c1 c2 c3 c4
           have hcan := HR1.out.cell (i := k) (by omega)
           generalize hb : E (rStarAt l) (rIsAt l) (bt s) i k = b at hcan
           have HBV := hide hb
           clear hb
           cases b with
           | true =>
             go_wp2
             go_roundw
             case rel =>
               go_light
               refine ⟨k + 1, by go_num, by omega, HR1.out.setOther (by simp; omega) _, (HR2.out.set k _).congr (fun q _ => ?_), HB.out.setCell (by simp; omega) _⟩
               by_cases e : q = k
               · subst e
                 rw [if_pos rfl, if_pos (by omega)]
                 cases q with
                 | zero => rw [Es0, HST.out, HBV.out]; rfl
                 | succ q => rw [Ess, HST.out, HBV.out]; simp
               · rw [if_neg e]
                 by_cases e2 : q < k
                 · rw [if_pos e2, if_pos (by omega)]
                 · rw [if_neg e2, if_neg (by omega)]
             case measure => simp [intOf] <;> omega
           | false =>
             rcases k with _ | k
             · skip
               go_wp2
               go_roundw
               case rel =>
                 go_light
                 refine ⟨0 + 1, by go_num, by omega, HR1.out.setOther (by simp; omega) _, (HR2.out.set 0 _).congr (fun q _ => ?_), HB.out.setCell (by simp; omega) _⟩
                 by_cases e : q = 0
                 · subst e
                   rw [if_pos rfl, if_pos (by omega), Es0, HST.out, HBV.out]; rfl
                 · rw [if_neg e, if_neg (by omega), if_neg (by omega)]
               case measure => simp [intOf] <;> omega
             · skip
               have hcp := HR2.out.cell (i := k) (by omega)
               rw [if_pos (by omega)] at hcp
               go_wp2
               go_roundw
               case rel =>
                 go_light
                 refine ⟨k + 1 + 1, by go_num, by omega, HR1.out.setOther (by simp; omega) _, (HR2.out.set (k + 1) _).congr (fun q _ => ?_), HB.out.setCell (by simp; omega) _⟩
                 by_cases e : q = k + 1
                 · subst e
                   rw [if_pos rfl, if_pos (by omega), Ess, HST.out, HBV.out]; simp
                 · rw [if_neg e]
                   by_cases e2 : q < k + 1
                   · rw [if_pos e2, if_pos (by omega)]
                   · rw [if_neg e2, if_neg (by omega)]
               case measure => simp [intOf] <;> omega
         · have g1 : ((x.kind : Int) == 1) = false := by simp only [beq_eq_false_iff_ne]; omega
           have HST := hide (show rStarAt l i = false by rw [rStarAt_of HX.out]; simpa using hkd)
           clear hkd
           rcases k with _ | k
           · skip
             go_wp2
             go_region
             go_wp2
             go_roundw
             case rel =>
               go_light
               refine ⟨0 + 1, by go_num, by omega, (HR1.out.setOther (a := ⟨wo.heap.size, 0, none⟩) (by simp; omega) _).drew, ((HR2.out.set 0 _).congr (fun q _ => ?_)).drew, (HB.out.setCell (p := ⟨wo.heap.size, 0, none⟩) (by simp; omega) _).drew⟩
               by_cases e : q = 0
               · subst e
                 rw [if_pos rfl, if_pos (by omega), Es0, HST.out]; rfl
               · rw [if_neg e, if_neg (by omega), if_neg (by omega)]
             case measure => simp [intOf] <;> omega
           · have hcan := HR1.out.cell (i := k) (by omega)
             generalize hb : E (rStarAt l) (rIsAt l) (bt s) i k = b at hcan
             have HBV := hide hb
             clear hb
             cases b with
             | false =>
               go_wp2
               go_region
               go_wp2
               go_roundw
               case rel =>
                 go_light
                 refine ⟨k + 1 + 1, by go_num, by omega, (HR1.out.setOther (a := ⟨wo.heap.size, k + 1, none⟩) (by simp; omega) _).drew, ((HR2.out.set (k + 1) _).congr (fun q _ => ?_)).drew, (HB.out.setCell (p := ⟨wo.heap.size, k + 1, none⟩) (by simp; omega) _).drew⟩
                 by_cases e : q = k + 1
                 · subst e
                   rw [if_pos rfl, if_pos (by omega), Ess, HST.out, HBV.out]; rfl
                 · rw [if_neg e]
                   by_cases e2 : q < k + 1
                   · rw [if_pos e2, if_pos (by omega)]
                   · rw [if_neg e2, if_neg (by omega)]
               case measure => simp [intOf] <;> omega
             | true =>
               have hks : k < s.size := by omega
               have HE := hide (rIsAt_of HX.out (bt s k))
               have b0 : (k : Int) < (s.size : Int) := by omega
               have b1 : (k : Int) + 1 < (s.size : Int) + 1 := by omega
               have b2 : (k : Int) < (s.size : Int) + 1 := by omega
               have b3 : (i : Int) < (l.length : Int) := by omega
               have b4 : (0 : Int) ≤ (k : Int) + 1 := by omega
               have b5 : (0 : Int) < (k : Int) + 1 := by omega
               have b7 : IntKind.i64.wrap (k : Int) = (k : Int) := IntWalk.i64_in _ (by omega)
               have b6 : IntKind.i64.wrap ((k : Int) + 1 - 1) = (k : Int) := by rw [IntWalk.i64_in _ (by omega)]; omega
               go_wp2_with fail
               rw [show ((k + 1 : Nat) : Int) = (k : Int) + 1 from rfl]
               go_region_held3 (fun w' => w'.cell? ⟨g, k, none⟩ = some (.bool true) ∧ w'.cell? ⟨ga, i * 5, none⟩ = some (.int .i64 x.kind) ∧ w'.cell? ⟨ga, i * 5 + 1, none⟩ = some (.int .u8 x.c) ∧ w'.cell? ⟨ga, i * 5 + 2, none⟩ = some (.bool x.nt) ∧ w'.cell? ⟨ga, i * 5 + 3, none⟩ = some vlo ∧ w'.cell? ⟨ga, i * 5 + 4, none⟩ = some vhi)
                 (first | exact ⟨hcan, c0, c1, c2, c3, c4⟩ | exact ⟨x0, y0, y1, y2, y3, y4⟩ | exact ⟨(World.cell?_setCell_other _ _ _ _ (by intro e; injection e; omega)).trans x0, (World.cell?_setCell_other _ _ _ _ (by intro e; injection e; omega)).trans y0, (World.cell?_setCell_other _ _ _ _ (by intro e; injection e; omega)).trans y1, (World.cell?_setCell_other _ _ _ _ (by intro e; injection e; omega)).trans y2, (World.cell?_setCell_other _ _ _ _ (by intro e; injection e; omega)).trans y3, (World.cell?_setCell_other _ _ _ _ (by intro e; injection e; omega)).trans y4⟩)
                 (first | (go_at_call 264; refine (is_any x vlo vhi (bt s k) _ hlb HL.out ?_ ?_).mono ?_; exact HLO.out; exact HHI.out; rintro e w1 ⟨rfl, hb1⟩; have x0 := (hb1.cell (p := ⟨g, k, none⟩) hl1).trans hcan; have y0 := (hb1.cell (p := ⟨ga, i * 5, none⟩) hga2).trans c0; have y1 := (hb1.cell (p := ⟨ga, i * 5 + 1, none⟩) hga2).trans c1; have y2 := (hb1.cell (p := ⟨ga, i * 5 + 2, none⟩) hga2).trans c2; have y3 := (hb1.cell (p := ⟨ga, i * 5 + 3, none⟩) hga2).trans c3; have y4 := (hb1.cell (p := ⟨ga, i * 5 + 4, none⟩) hga2).trans c4; have z0 := (hb1.cell (p := ⟨wo.heap.size, k + 1, none⟩) hl2).trans hck; have z1 := (hb1.frozen (p := ⟨wo.heap.size, k + 1, none⟩) hl2).trans hfr; have HB1 := hide hb1; clear hb1))
               go_wp2
               go_roundw
               case rel =>
                 go_light
                 have r1 := HR1.out.of_block (HB1.out.block g hl1)
                 have r2 := HR2.out.of_block (HB1.out.block wo.heap.size hl2)
                 refine ⟨k + 1 + 1, by go_num, by omega, r1.setOther (by simp; omega) _, (r2.set (k + 1) _).congr (fun q _ => ?_), (below_up HB.out.drew HB1.out HB.out.size).setCell (by simp; omega) _⟩
                 by_cases e : q = k + 1
                 · subst e
                   rw [if_pos rfl, if_pos (by omega), Ess, HST.out, HBV.out, HE.out]; rfl
                 · rw [if_neg e]
                   by_cases e2 : q < k + 1
                   · rw [if_pos e2, if_pos (by omega)]
                   · rw [if_neg e2, if_neg (by omega)]
               case measure => simp [intOf] <;> omega
       · obtain rfl : k = s.size + 1 := by omega
         go_wp2
         go_roundw
         case rel =>
           go_light
           exact ⟨i + 1, wo.heap.size, by go_num, rfl, by omega, hgn, HR2.out.congr (fun q hq => by rw [if_pos hq]), HB.out⟩
         case measure => simp [intOf] <;> omega
   · have e : i = l.length := by omega
     subst e
     go_wp2
     go_ret
     exact ⟨g, rfl, hg, HR.out, HB.out⟩
end
end Go.Proofs.YtmcophlmcloooaaGreatDoor
namespace Qm.Glob
def Same (x : GI) (y : RI) : Prop := x.star = (y.kind == 1) ∧ ∀ c, c < 256 → x.S c = y.is c
def Pair : List GI → List RI → Prop
 | [], [] => True
 | x :: a, y :: b => Same x y ∧ Pair a b
 | _, _ => False
theorem same_one (c : Nat) : Same (giOne c) (rByte c) := by
 refine ⟨rfl, fun d _ => ?_⟩
 simp only [giOne, rByte, RI.is, addS, if_true, Bool.false_or]
 rw [Bool.eq_iff_iff]
 simp
 omega
theorem same_any : Same giAny rAny := by
 refine ⟨rfl, fun d hd => ?_⟩
 simp [giAny, rAny, RI.is, addS, hd]
theorem same_star : Same giStar rStar := ⟨rfl, fun _ _ => rfl⟩
theorem same_set (nt : Bool) (lo hi : List Nat) : Same (giSet (if nt then fun c => !inR lo hi c else inR lo hi)) ⟨3, 0, nt, lo, hi⟩ := by
 refine ⟨rfl, fun d _ => ?_⟩
 cases nt <;> simp [giSet, RI.is]
theorem brAt_le {t : Nat → Nat} {n i : Nat} (h : i ≤ n) : brAt t n i ≤ n := by
 unfold brAt
 split
 · rename_i h2
   simp only [brNt, Bool.and_eq_true, decide_eq_true_eq] at h2
   omega
 · exact h
theorem gBracket_rSet {t : Nat → Nat} {n i : Nat} (h : i ≤ n) :
   gBracket t n i = if (rSetOf t n i).2.2 < n then some (if brNt t n i then fun c => !inR (rSetOf t n i).1 (rSetOf t n i).2.1 c else inR (rSetOf t n i).1 (rSetOf t n i).2.1, (rSetOf t n i).2.2 + 1) else none := by
 have hb := brAt_le (t := t) h
 have := gBr_rSet (t := t) (n := n) (i0 := brAt t n i) (nt := brNt t n i) (n + 1 - brAt t n i) (brAt t n i) true [] [] rfl (by omega) hb (by simp) (Nat.le_refl _)
 have e : (inR [] [] : Nat → Bool) = fun _ => false := by funext c; rfl
 rw [e] at this
 exact this
theorem pair_it (t : Nat → Nat) (n : Nat) : ∀ f i, Pair (gIt t n f i) (rIt t n f i)
 | 0, _ => trivial
 | f + 1, i => by
   rw [gIt, rIt]
   by_cases h : i < n
   · rw [if_pos h, if_pos h]
     by_cases h1 : t i = 42
     · rw [if_pos h1, if_pos h1]; exact ⟨same_star, pair_it t n f _⟩
     · rw [if_neg h1, if_neg h1]
       by_cases h2 : t i = 63
       · rw [if_pos h2, if_pos h2]; exact ⟨same_any, pair_it t n f _⟩
       · rw [if_neg h2, if_neg h2]
         by_cases h3 : t i = 92
         · have h5 : ¬ (t i = 91 ∧ (rSetOf t n (i + 1)).2.2 < n) := by omega
           rw [if_pos h3, if_neg h5]
           by_cases h4 : i + 1 < n
           · rw [if_pos h4, rOne, if_pos ⟨h3, h4⟩]; exact ⟨same_one _, pair_it t n f _⟩
           · rw [if_neg h4, rOne, if_neg (fun h => h4 h.2), h3]; exact ⟨same_one _, pair_it t n f _⟩
         · rw [if_neg h3]
           have hr : rOne t n i = (t i, 1) := by rw [rOne, if_neg (fun h => h3 h.1)]
           by_cases h4 : t i = 91
           · rw [if_pos h4, gBracket_rSet (by omega)]
             by_cases h5 : (rSetOf t n (i + 1)).2.2 < n
             · have h6 : t i = 91 ∧ (rSetOf t n (i + 1)).2.2 < n := ⟨h4, h5⟩
               rw [if_pos h5, if_pos h6]; exact ⟨same_set _ _ _, pair_it t n f _⟩
             · have h6 : ¬ (t i = 91 ∧ (rSetOf t n (i + 1)).2.2 < n) := fun h => h5 h.2
               rw [if_neg h5, if_neg h6, hr, h4]; exact ⟨same_one _, pair_it t n f _⟩
           · have h6 : ¬ (t i = 91 ∧ (rSetOf t n (i + 1)).2.2 < n) := fun h => h4 h.1
             rw [if_neg h4, if_neg h6, hr]; exact ⟨same_one _, pair_it t n f _⟩
   · rw [if_neg h, if_neg h]; trivial
theorem Pair.len : ∀ {a : List GI} {b : List RI}, Pair a b → a.length = b.length
 | [], [], _ => rfl
 | _ :: _, _ :: _, h => by simp [Pair.len h.2]
 | [], _ :: _, h => h.elim
 | _ :: _, [], h => h.elim
theorem Pair.get : ∀ {a : List GI} {b : List RI}, Pair a b → ∀ k, k < a.length → Same (a.getD k giStar) (b.getD k rStar)
 | [], [], _, _, h => absurd h (by simp)
 | x :: a, y :: b, h, k, hk => by
   cases k with
   | zero => exact h.1
   | succ k => simpa using Pair.get h.2 k (by simpa using hk)
 | [], _ :: _, h, _, _ => h.elim
 | _ :: _, [], h, _, _ => h.elim
theorem E_congr {st st' : Nat → Bool} {hs hs' : Nat → Nat → Bool} {t : Nat → Nat} {n : Nat} (h1 : ∀ k, k < n → st k = st' k) (h2 : ∀ k i, k < n → hs k (t i) = hs' k (t i)) :
   ∀ k i, k ≤ n → E st hs t k i = E st' hs' t k i
 | 0, 0, _ => by rw [E00, E00]
 | 0, _ + 1, _ => by rw [E0s, E0s]
 | k + 1, 0, h => by rw [Es0, Es0, h1 k (by omega), E_congr h1 h2 k 0 (by omega)]
 | k + 1, i + 1, h => by rw [Ess, Ess, h1 k (by omega), E_congr h1 h2 k (i + 1) (by omega), E_congr h1 h2 (k + 1) i h, E_congr h1 h2 k i (by omega), h2 k i (by omega)]
termination_by k i => (k, i)
theorem rSet_ok {t : Nat → Nat} {n : Nat} : ∀ (f : Nat) (first : Bool) (i : Nat) (lo hi : List Nat), i ≤ n → lo.length = hi.length → lo.length ≤ i →
   (rSet t n f first i lo hi).1.length = (rSet t n f first i lo hi).2.1.length ∧ (rSet t n f first i lo hi).1.length ≤ n
 | 0, _, i, lo, hi, h1, h2, h3 => ⟨h2, by show lo.length ≤ n; omega⟩
 | f + 1, first, i, lo, hi, h1, h2, h3 => by
   rw [rSet]
   by_cases hc : i < n ∧ (first = true ∨ t i ≠ 93)
   · rw [if_pos hc]
     have hr := rOne_le (t := t) hc.1
     by_cases hg : i + (rOne t n i).2 + 1 < n ∧ t (i + (rOne t n i).2) = 45 ∧ t (i + (rOne t n i).2 + 1) ≠ 93
     · rw [if_pos hg]
       have hr2 := rOne_le (t := t) hg.1
       exact rSet_ok f _ _ _ _ (by omega) (by simp [h2]) (by simp; omega)
     · rw [if_neg hg]
       exact rSet_ok f _ _ _ _ (by omega) (by simp [h2]) (by simp; omega)
   · rw [if_neg hc]; exact ⟨h2, by show lo.length ≤ n; omega⟩
theorem rIt_ok (t : Nat → Nat) (n : Nat) : ∀ f i x, x ∈ rIt t n f i → x.lo.length = x.hi.length ∧ x.lo.length ≤ n
 | 0, _, x, h => by simp [rIt] at h
 | f + 1, i, x, h => by
   rw [rIt] at h
   by_cases h0 : i < n
   · rw [if_pos h0] at h
     split at h
     · rcases List.mem_cons.1 h with rfl | h
       · exact ⟨rfl, Nat.zero_le _⟩
       · exact rIt_ok t n f _ x h
     · split at h
       · rcases List.mem_cons.1 h with rfl | h
         · exact ⟨rfl, Nat.zero_le _⟩
         · exact rIt_ok t n f _ x h
       · split at h
         · rcases List.mem_cons.1 h with rfl | h
           · exact rSet_ok _ _ _ _ _ (brAt_le (by omega)) rfl (Nat.zero_le _)
           · exact rIt_ok t n f _ x h
         · rcases List.mem_cons.1 h with rfl | h
           · exact ⟨rfl, Nat.zero_le _⟩
           · exact rIt_ok t n f _ x h
   · rw [if_neg h0] at h
     simp at h
theorem rItems_len (t : Nat → Nat) (n : Nat) : (rItems t n).length ≤ n := by
 rw [rItems, ← (pair_it t n (n + 1) 0).len]
 exact gItems_len t n
theorem same_match (t u : Nat → Nat) (n m : Nat) (hu : ∀ i, u i < 256) :
   E (fun k => ((gItems t n).getD k giStar).star) (fun k c => ((gItems t n).getD k giStar).S c) u (gItems t n).length m =
   E (fun k => ((rItems t n).getD k rStar).kind == 1) (fun k c => ((rItems t n).getD k rStar).is c) u (rItems t n).length m := by
 have hp := pair_it t n (n + 1) 0
 rw [← show (gItems t n).length = (rItems t n).length from hp.len]
 exact E_congr (fun k hk => (hp.get k hk).1) (fun k i hk => (hp.get k hk).2 _ (hu i)) _ _ (Nat.le_refl _)
end Qm.Glob
namespace Go.Proofs.YtmcophlmcloooaaGreatDoor
section
open Go.RowKit Go.Deep Qm.Glob
attribute [local go_sem] bt_eq
theorem bytes_of_own {w : World} {base : Nat} {v : Value} {l : List Nat} (h : OwnB w base v l) : BytesAt w v l := by
 rcases h.2 with ⟨rfl, hn⟩ | ⟨g, cap, cur, rfl, _, hh, _⟩
 · refine ⟨none, 0, by rw [hn], fun k x hx => ?_⟩
   have := (List.getElem?_eq_some_iff.1 hx).1
   omega
 · refine ⟨_, cap, rfl, fun k x hx => ⟨g, rfl, (h.lt g rfl).2, ?_⟩⟩
   have hk := (List.getElem?_eq_some_iff.1 hx).1
   rw [World.ownsRow.cellAt h k (by omega)]
   simp [nbytes, hx]
theorem ritems_of_own {w : World} {base : Nat} {v : Value} {l : List RI} {xs : List Value} (h : w.ownsRow base 178 5 v l.length xs) (hr : RIs w base l xs)
   (hok : ∀ x ∈ l, x.lo.length = x.hi.length ∧ x.lo.length ≤ 1000) : ∃ A c, v = .slice A l.length c ∧ RItemsAt w A l := by
 rcases h.2 with ⟨rfl, hn⟩ | ⟨g, cap, cur, rfl, _, hh, _⟩
 · refine ⟨none, 0, by rw [hn], fun k x hx => ?_⟩
   have := (List.getElem?_eq_some_iff.1 hx).1
   omega
 · refine ⟨_, cap, rfl, fun k x hx => ?_⟩
   obtain ⟨vlo, vhi, h1, h2, h3⟩ := RIs_get l xs hr k x hx
   refine ⟨g, vlo, vhi, rfl, (h.lt g rfl).2, fun j u hu => ?_, bytes_of_own h1, bytes_of_own h2, (hok x (List.mem_of_getElem? hx)).1, (hok x (List.mem_of_getElem? hx)).2⟩
   have hj := h3 j u hu
   have hlt := (List.getElem?_eq_some_iff.1 hj).1
   rw [h.cellAt _ (by rw [← h.1]; exact hlt), hj]
def rMatch (p s : ByteArray) : Bool := E (rStarAt (rItems (bt p) p.size)) (rIsAt (rItems (bt p) p.size)) (bt s) (rItems (bt p) p.size).length s.size
theorem rmatch_any (p s : ByteArray) (w : World) (hp : p.size ≤ 1000) (hs : s.size ≤ 1000) :
   Calls Tryz.prog 177 #[.string p, .string s] w fun e w' => e = .returned (.bool (rMatch p s)) ∧ Below w.heap.size w w' := by
 go_enter Tryz.func177, Tryz.ntmps177
 go_wp2_with fail
 refine (ritems_any p w hp).mono ?_
 rintro e w1 ⟨v, xs, rfl, hown, hris, hb⟩
 obtain ⟨A, c, rfl, hat⟩ := ritems_of_own hown hris (fun x hx => by have := rIt_ok _ _ _ _ x hx; omega)
 have HAT := hide hat
 have HB := hide hb
 clear hat hb hown hris
 go_wp2_with fail
 refine (fronts_any s A c (rItems (bt p) p.size) w1 hs (Nat.le_trans (rItems_len _ _) hp) HAT.out).mono ?_
 rintro e w2 ⟨g, rfl, hg, hrow, hb2⟩
 have hcell := hrow.cell (i := s.size) (by omega)
 have HB2 := hide (below_up HB.out hb2 HB.out.size)
 clear hrow hb2 HAT HB hg
 go_wp2
 go_ret
 exact ⟨rfl, HB2.out⟩
end
section
open Go.RowKit Go.Deep Qm.Glob
attribute [local go_sem] bt_eq
theorem match_same (p s : ByteArray) : gMatch p s = rMatch p s := same_match (bt p) (bt s) p.size s.size (bt_lt s)
end
section
open Go.RowKit Go.Deep Qm.Glob Qm.Base
attribute [local go_sem] bt_eq
def dotS (s : ByteArray) : Bool := decide (0 < s.size) && bt s 0 == 46
def dotP (p : ByteArray) : Bool := dotS p || (decide (1 < p.size) && bt p 0 == 92 && bt p 1 == 46)
def keepN (p s : ByteArray) : Bool := (!dotS s || dotP p) && gMatch p s
def namesOf (p : ByteArray) (L : List ByteArray) : List ByteArray := (L.filter (keepN p)).foldl (fun acc s => putS s acc) []
theorem putS_len (s : ByteArray) : ∀ L, (putS s L).length ≤ L.length + 1
 | [] => by simp [putS]
 | x :: L => by
   rw [putS]
   split
   · have := putS_len s L; simp; omega
   · split <;> simp
theorem namesOf_snoc (p : ByteArray) (L : List ByteArray) (s : ByteArray) : namesOf p (L ++ [s]) = if keepN p s then putS s (namesOf p L) else namesOf p L := by
 rw [namesOf, List.filter_append, List.foldl_append]
 cases h : keepN p s <;> simp [h, namesOf]
theorem namesOf_len (p : ByteArray) (L : List ByteArray) : (namesOf p L).length ≤ L.length := by
 have : ∀ n, ∀ L : List ByteArray, L.length = n → (namesOf p L).length ≤ n := fun n => by
   induction n with
   | zero => intro L h; rw [List.eq_nil_of_length_eq_zero h]; simp [namesOf]
   | succ n ih =>
     intro L h
     obtain ⟨L', x, rfl⟩ : ∃ l' x, L = l' ++ [x] := ⟨L.dropLast, L.getLast (by intro e; subst e; simp at h), (List.dropLast_concat_getLast _).symm⟩
     have h2 := ih L' (by simpa using h)
     rw [namesOf_snoc]
     split
     · have := putS_len x (namesOf p L'); omega
     · omega
 exact this _ L rfl
theorem grnames_any (p : ByteArray) (A : Option Addr) (c : Nat) (L : List ByteArray) (w : World) (hp : p.size ≤ 1000) (hL : ∀ (k : Nat) (s : ByteArray), L[k]? = some s → s.size ≤ 1000) (hn : L.length ≤ 1000) (hA : SR w A L) :
   Calls Tryz.prog 126 #[.string p, .slice A L.length c] w fun e w' => (∃ A' c', e = .returned (.slice A' (namesOf p L).length c') ∧ SR w' A' (namesOf p L) ∧ (namesOf p L).length ≤ c') ∧ Below w.heap.size w w' := by
 obtain ⟨n, hn1⟩ : ∃ n, L.length = n := ⟨_, rfl⟩
 rw [hn1]
 rw [hn1] at hn
 have HN := hide hn1
 have HA := hide hA
 have HL := hide hL
 have HDP := hide (show dotP p = (dotS p || (decide (1 < p.size) && bt p 0 == 92 && bt p 1 == 46)) from rfl)
 have HDS := hide (show dotS p = (decide (0 < p.size) && bt p 0 == 46) from rfl)
 clear hA hn1 hL
 go_enter Tryz.func126, Tryz.ntmps126
 go_upto_region 1 with (fail)
 go_cut [5] from 9 to 32 (fun v5 w' => v5 = .bool (dotP p) ∧ w = w')
 case first =>
   by_cases h0 : 0 < p.size
   · by_cases h1 : bt p 0 = 46
     · have g1 : (((bt p 0 : Nat) : Int) == 46) = true := by simp [h1]
       have HF := hide (show dotP p = true by rw [HDP.out, HDS.out, h1]; simp [h0])
       clear h1
       go_wp2
       go_meet
       exact ⟨by rw [HF.out], rfl⟩
     · have g1 : (((bt p 0 : Nat) : Int) == 46) = false := by simp only [beq_eq_false_iff_ne]; omega
       by_cases h2 : 1 < p.size
       · by_cases h3 : bt p 0 = 92
         · have g3 : (((bt p 0 : Nat) : Int) == 92) = true := by simp [h3]
           by_cases h4 : bt p 1 = 46
           · have g4 : (((bt p 1 : Nat) : Int) == 46) = true := by simp [h4]
             have HF := hide (show dotP p = true by rw [HDP.out, HDS.out, h3, h4]; simp [h2])
             clear h1 h3 h4
             go_wp2
             go_meet
             exact ⟨by rw [HF.out], rfl⟩
           · have g4 : (((bt p 1 : Nat) : Int) == 46) = false := by simp only [beq_eq_false_iff_ne]; omega
             have HF := hide (show dotP p = false by rw [HDP.out, HDS.out, h3]; simp [h4])
             clear h1 h3 h4
             go_wp2
             go_meet
             exact ⟨by rw [HF.out], rfl⟩
         · have g3 : (((bt p 0 : Nat) : Int) == 92) = false := by simp only [beq_eq_false_iff_ne]; omega
           have HF := hide (show dotP p = false by rw [HDP.out, HDS.out]; simp [h1, h3])
           clear h1 h3
           go_wp2
           go_meet
           exact ⟨by rw [HF.out], rfl⟩
       · have HF := hide (show dotP p = false by rw [HDP.out, HDS.out]; simp [h1, h2])
         clear h1
         go_wp2
         go_meet
         exact ⟨by rw [HF.out], rfl⟩
   · have HF := hide (show dotP p = false by rw [HDP.out, HDS.out]; simp [h0]; omega)
     go_wp2
     go_meet
     exact ⟨by rw [HF.out], rfl⟩
 case rest =>
   obtain ⟨rfl, rfl⟩ := hcut
   generalize hdp : dotP p = dp
   have HDQ := hide hdp
   clear hdp HDP HDS
   go_wp2
   go_loopw [6, 7] (fun v6 v7 wr => ∃ (k : Nat) (A' : Option Addr) (c' : Nat), v7 = .int .i64 k ∧ k ≤ n ∧ v6 = .slice A' (namesOf p (L.take k)).length c' ∧ SR wr A' (namesOf p (L.take k)) ∧ (namesOf p (L.take k)).length ≤ c' ∧ Below w.heap.size w wr) (fun _ v7 _ => n - (intOf v7).toNat)
   case atStart => exact ⟨0, none, 0, rfl, by omega, rfl, SR.nil _ _, Nat.le_refl _, Below.refl _ _⟩
   case round =>
     obtain ⟨k, A', c', rfl, hk, rfl, hsr, hc', hb⟩ := hrel
     have HSR := hide hsr
     have HB := hide hb
     clear hsr hb
     by_cases hlt : k < n
     · obtain ⟨x, hx⟩ : ∃ x, L[k]? = some x := ⟨L[k]'(by have := HN.out; omega), gE _⟩
       have hxs := HL.out k x hx
       obtain ⟨g, o, rfl, hg, hcell⟩ := (HA.out.below HB.out) k x hx
       have HX := hide (show namesOf p (L.take (k + 1)) = if keepN p x then putS x (namesOf p (L.take k)) else namesOf p (L.take k) by rw [take_snoc' hx, namesOf_snoc])
       have hkp : keepN p x = ((!dotS x || dp) && gMatch p x) := by rw [keepN, HDQ.out]
       have HKP := hide hkp
       have HDX := hide (show dotS x = (decide (0 < x.size) && bt x 0 == 46) from rfl)
       have hml : (namesOf p (L.take k)).length ≤ 1000 := by
         have := namesOf_len p (L.take k)
         simp at this
         omega
       clear hx hkp
       by_cases h0 : 0 < x.size
       · by_cases h1 : bt x 0 = 46
         · have g1 : (((bt x 0 : Nat) : Int) == 46) = true := by simp [h1]
           cases dp with
           | true =>
             have HD := hide (show (!dotS x || true) = true by simp)
             clear h1
             go_wp2_with fail
             refine (rmatch_any p x wr hp hxs).mono ?_
             rintro e w2 ⟨rfl, hb2⟩
             rw [← match_same]
             have HSR2 := hide (HSR.out.below hb2)
             have hcell2 : w2.cell? ⟨g, o + k, none⟩ = some (.string x) := (hb2.cell (p := ⟨g, o + k, none⟩) hg).trans hcell
             have HB2 := hide (below_up HB.out hb2 HB.out.size)
             clear hb2
             cases hm : gMatch p x with
             | true =>
               have HK := hide (show keepN p x = true by rw [HKP.out, HD.out, hm]; rfl)
               clear hm
               go_wp2_with fail
               refine (putstr_any A' c' (namesOf p (L.take k)) x w2 HSR2.out (by omega) hc').mono ?_
               rintro e w3 ⟨⟨A3, c3, rfl, hs3, hc3⟩, hb3⟩
               have HS3 := hide hs3
               have HB3 := hide (below_up HB2.out hb3 HB2.out.size)
               clear hs3 hb3
               go_wp2
               go_roundw
               case rel => exact ⟨k + 1, A3, c3, by go_num, by omega, by rw [HX.out, HK.out]; rfl, by rw [HX.out, HK.out]; exact HS3.out, by rw [HX.out, HK.out]; exact hc3, HB3.out⟩
               case measure => simp [intOf]; omega
             | false =>
               have HK := hide (show keepN p x = false by rw [HKP.out, hm, Bool.and_false])
               clear hm
               go_wp2
               go_roundw
               case rel => exact ⟨k + 1, A', c', by go_num, by omega, by rw [HX.out, HK.out]; rfl, by rw [HX.out, HK.out]; exact HSR2.out, by rw [HX.out, HK.out]; exact hc', HB2.out⟩
               case measure => simp [intOf]; omega
           | false =>
             have HK := hide (show keepN p x = false by rw [HKP.out, HDX.out, h1]; simp [h0])
             clear h1
             go_wp2
             go_roundw
             case rel => exact ⟨k + 1, A', c', by go_num, by omega, by rw [HX.out, HK.out]; rfl, by rw [HX.out, HK.out]; exact HSR.out, by rw [HX.out, HK.out]; exact hc', HB.out⟩
             case measure => simp [intOf]; omega
         · have g1 : (((bt x 0 : Nat) : Int) == 46) = false := by simp only [beq_eq_false_iff_ne]; omega
           have HD := hide (show (!dotS x || dp) = true by rw [HDX.out]; simp [h1])
           clear h1
           go_wp2_with fail
           refine (rmatch_any p x wr hp hxs).mono ?_
           rintro e w2 ⟨rfl, hb2⟩
           rw [← match_same]
           have HSR2 := hide (HSR.out.below hb2)
           have hcell2 : w2.cell? ⟨g, o + k, none⟩ = some (.string x) := (hb2.cell (p := ⟨g, o + k, none⟩) hg).trans hcell
           have HB2 := hide (below_up HB.out hb2 HB.out.size)
           clear hb2
           cases hm : gMatch p x with
           | true =>
             have HK := hide (show keepN p x = true by rw [HKP.out, HD.out, hm]; rfl)
             clear hm
             go_wp2_with fail
             refine (putstr_any A' c' (namesOf p (L.take k)) x w2 HSR2.out (by omega) hc').mono ?_
             rintro e w3 ⟨⟨A3, c3, rfl, hs3, hc3⟩, hb3⟩
             have HS3 := hide hs3
             have HB3 := hide (below_up HB2.out hb3 HB2.out.size)
             clear hs3 hb3
             go_wp2
             go_roundw
             case rel => exact ⟨k + 1, A3, c3, by go_num, by omega, by rw [HX.out, HK.out]; rfl, by rw [HX.out, HK.out]; exact HS3.out, by rw [HX.out, HK.out]; exact hc3, HB3.out⟩
             case measure => simp [intOf]; omega
           | false =>
             have HK := hide (show keepN p x = false by rw [HKP.out, hm, Bool.and_false])
             clear hm
             go_wp2
             go_roundw
             case rel => exact ⟨k + 1, A', c', by go_num, by omega, by rw [HX.out, HK.out]; rfl, by rw [HX.out, HK.out]; exact HSR2.out, by rw [HX.out, HK.out]; exact hc', HB2.out⟩
             case measure => simp [intOf]; omega
       · have HD := hide (show (!dotS x || dp) = true by rw [HDX.out]; simp [h0])
         go_wp2_with fail
         refine (rmatch_any p x wr hp hxs).mono ?_
         rintro e w2 ⟨rfl, hb2⟩
         rw [← match_same]
         have HSR2 := hide (HSR.out.below hb2)
         have hcell2 : w2.cell? ⟨g, o + k, none⟩ = some (.string x) := (hb2.cell (p := ⟨g, o + k, none⟩) hg).trans hcell
         have HB2 := hide (below_up HB.out hb2 HB.out.size)
         clear hb2
         cases hm : gMatch p x with
         | true =>
           have HK := hide (show keepN p x = true by rw [HKP.out, HD.out, hm]; rfl)
           clear hm
           go_wp2_with fail
           refine (putstr_any A' c' (namesOf p (L.take k)) x w2 HSR2.out (by omega) hc').mono ?_
           rintro e w3 ⟨⟨A3, c3, rfl, hs3, hc3⟩, hb3⟩
           have HS3 := hide hs3
           have HB3 := hide (below_up HB2.out hb3 HB2.out.size)
           clear hs3 hb3
           go_wp2
           go_roundw
           case rel => exact ⟨k + 1, A3, c3, by go_num, by omega, by rw [HX.out, HK.out]; rfl, by rw [HX.out, HK.out]; exact HS3.out, by rw [HX.out, HK.out]; exact hc3, HB3.out⟩
           case measure => simp [intOf]; omega
         | false =>
           have HK := hide (show keepN p x = false by rw [HKP.out, hm, Bool.and_false])
           clear hm
           go_wp2
           go_roundw
           case rel => exact ⟨k + 1, A', c', by go_num, by omega, by rw [HX.out, HK.out]; rfl, by rw [HX.out, HK.out]; exact HSR2.out, by rw [HX.out, HK.out]; exact hc', HB2.out⟩
           case measure => simp [intOf]; omega
     · obtain rfl : k = n := by omega
       have HT := hide (show L.take k = L from List.take_of_length_le (by have := HN.out; omega))
       go_wp2
       go_ret
       refine ⟨⟨A', c', ?_, ?_, ?_⟩, HB.out⟩
       · rw [HT.out]; rfl
       · have := HSR.out; rw [HT.out] at this; exact this
       · rw [HT.out] at hc'; exact hc'
end
end Go.Proofs.YtmcophlmcloooaaGreatDoor
namespace Go.Proofs
open Go.Shelf
def Tryz.lays169_ren : Go.Shelf.Ren := ⟨fun | 169 => 59 | n => n, fun | 70 => 113 | 9 => 9 | 0 => 0 | 72 => 115 | 37 => 29 | 127 => 169 | 3 => 3 | 5 => 5 | n => n, fun | n => n⟩
theorem Tryz.lays169 : Go.Proofs.Lays.n169 Tryz.prog Tryz.lays169_ren := {
 mixed := by kernel_rfl
 f169 := Tryz.func59.trans (congrArg some (by kernel_rfl))
 t0 := Tryz.underlying0
 a0 := Tryz.isAgg0
 z0 := Tryz.sizeOf0
 v0 := Tryz.zeroValue0
 t3 := Tryz.underlying3
 a3 := Tryz.isAgg3
 z3 := Tryz.sizeOf3
 v3 := Tryz.zeroValue3
 t9 := Tryz.underlying9
 a9 := Tryz.isAgg9
 z9 := Tryz.sizeOf9
 v9 := Tryz.zeroValue9
 t37 := Tryz.underlying29
 a37 := Tryz.isAgg29
 z37 := Tryz.sizeOf29
 v37 := Tryz.zeroValue29
 t70 := Tryz.underlying113
 a70 := Tryz.isAgg113
 z70 := Tryz.sizeOf113
 v70 := Tryz.zeroValue113
 t72 := Tryz.underlying115
 a72 := Tryz.isAgg115
 z72 := Tryz.sizeOf115
 v72 := Tryz.zeroValue115
 t127 := Tryz.underlying169
 a127 := Tryz.isAgg169
 z127 := Tryz.sizeOf169
 v127 := Tryz.zeroValue169 }
theorem Tryz.Builder_Extra_169 : Builder.Extra Tryz.prog Tryz.lays169_ren := {
 sizeBuilder := by kernel_rfl
 liesBuilder := by kernel_rfl
 t5 := Tryz.underlying5
 a5 := Tryz.isAgg5
 z5 := Tryz.sizeOf5
 v5 := Tryz.zeroValue5
 infoByte := by kernel_rfl
 cellsByte := by kernel_rfl
 sizeByte := by kernel_rfl
 neB5 := by decide }
open Go.RowKit in
theorem Tryz.Builder_String_any (B b : Nat) (l : List UInt8) (w : World) (h : Lib.IsBuilder 115 5 B b (Lib.byteCells l) w) (hBw : B ≤ w.heap.size) :
   Calls Tryz.prog 59 #[.pointer (some ⟨b, 0, none⟩)] w fun e w' => e = .returned (.string ⟨l.toArray⟩) ∧ Below B w w' := Any.Builder_String_any Tryz.lays169 Tryz.Builder_Extra_169 B b l w h hBw
def Tryz.lays156_ren : Go.Shelf.Ren := ⟨fun | 156 => 164 | 165 => 218 | 166 => 58 | 169 => 59 | 240 => 110 | 241 => 258 | 276 => 169 | 277 => 276 | n => n, fun | 31 => 42 | 9 => 9 | 3 => 3 | 4 => 4 | 0 => 0 | 20 => 20 | 72 => 115 | 76 => 118 | 70 => 113 | 37 => 29 | 75 => 117 | 127 => 169 | 164 => 213 | 5 => 5 | 80 => 120 | n => n, fun | n => n⟩
theorem Tryz.lays156 : Go.Proofs.Lays.n156 Tryz.prog Tryz.lays156_ren := {
 mixed := by kernel_rfl
 f156 := Tryz.func164.trans (congrArg some (by kernel_rfl))
 f165 := Tryz.func218.trans (congrArg some (by kernel_rfl))
 f166 := Tryz.func58.trans (congrArg some (by kernel_rfl))
 f169 := Tryz.func59.trans (congrArg some (by kernel_rfl))
 f240 := Tryz.func110.trans (congrArg some (by kernel_rfl))
 f241 := Tryz.func258.trans (congrArg some (by kernel_rfl))
 f276 := Tryz.func169.trans (congrArg some (by kernel_rfl))
 f277 := Tryz.func276.trans (congrArg some (by kernel_rfl))
 t0 := Tryz.underlying0
 a0 := Tryz.isAgg0
 z0 := Tryz.sizeOf0
 v0 := Tryz.zeroValue0
 t3 := Tryz.underlying3
 a3 := Tryz.isAgg3
 z3 := Tryz.sizeOf3
 v3 := Tryz.zeroValue3
 t4 := Tryz.underlying4
 a4 := Tryz.isAgg4
 z4 := Tryz.sizeOf4
 v4 := Tryz.zeroValue4
 t9 := Tryz.underlying9
 a9 := Tryz.isAgg9
 z9 := Tryz.sizeOf9
 v9 := Tryz.zeroValue9
 t20 := Tryz.underlying20
 a20 := Tryz.isAgg20
 z20 := Tryz.sizeOf20
 v20 := Tryz.zeroValue20
 t31 := Tryz.underlying42
 a31 := Tryz.isAgg42
 z31 := Tryz.sizeOf42
 v31 := Tryz.zeroValue42
 t37 := Tryz.underlying29
 a37 := Tryz.isAgg29
 z37 := Tryz.sizeOf29
 v37 := Tryz.zeroValue29
 t70 := Tryz.underlying113
 a70 := Tryz.isAgg113
 z70 := Tryz.sizeOf113
 v70 := Tryz.zeroValue113
 t72 := Tryz.underlying115
 a72 := Tryz.isAgg115
 z72 := Tryz.sizeOf115
 v72 := Tryz.zeroValue115
 t75 := Tryz.underlying117
 a75 := Tryz.isAgg117
 z75 := Tryz.sizeOf117
 v75 := Tryz.zeroValue117
 t76 := Tryz.underlying118
 a76 := Tryz.isAgg118
 z76 := Tryz.sizeOf118
 v76 := Tryz.zeroValue118
 t127 := Tryz.underlying169
 a127 := Tryz.isAgg169
 z127 := Tryz.sizeOf169
 v127 := Tryz.zeroValue169
 t164 := Tryz.underlying213
 a164 := Tryz.isAgg213
 z164 := Tryz.sizeOf213
 v164 := Tryz.zeroValue213 }
theorem Tryz.Builder_Extra_156 : Builder.Extra Tryz.prog Tryz.lays156_ren := {
 sizeBuilder := by kernel_rfl
 liesBuilder := by kernel_rfl
 t5 := Tryz.underlying5
 a5 := Tryz.isAgg5
 z5 := Tryz.sizeOf5
 v5 := Tryz.zeroValue5
 infoByte := by kernel_rfl
 cellsByte := by kernel_rfl
 sizeByte := by kernel_rfl
 neB5 := by decide }
open Go.RowKit in
theorem Tryz.strings_Join_none (a : Option Addr) (c : Nat) (sep : ByteArray) (w : World) :
   Calls Tryz.prog 164 #[.slice a 0 c, .string sep] w fun e w' => e = .returned (.string ⟨#[]⟩) ∧ w' = w := Any.strings_Join_none Tryz.lays156 Tryz.Builder_Extra_156 a c sep w
open Go.RowKit in
theorem Tryz.strings_Join (bk o c : Nat) (xs : List ByteArray) (sep : ByteArray) (w : World) (hcells : ∀ (j : Nat) x, xs[j]? = some x → w.cell? ⟨bk, o + j, none⟩ = some (.string x)) (hbk : bk < w.heap.size) (hN : xs.length ≤ 140737488355328) (hcap : xs.length ≤ c) (hlen : (Lib.join (xs.map (·.data.toList)) sep.data.toList).length ≤ 140737488355328) :
   Calls Tryz.prog 164 #[.slice (some ⟨bk, o, none⟩) xs.length c, .string sep] w fun e w' => e = .returned (.string ⟨(Lib.join (xs.map (·.data.toList)) sep.data.toList).toArray⟩) ∧ Below w.heap.size w w' := Any.strings_Join Tryz.lays156 Tryz.Builder_Extra_156 bk o c xs sep w hcells hbk hN hcap hlen
def Tryz.lays119_ren : Go.Shelf.Ren := ⟨fun | 119 => 211 | n => n, fun | 21 => 21 | 4 => 4 | n => n, fun | n => n⟩
theorem Tryz.lays119 : Go.Proofs.Lays.n119 Tryz.prog Tryz.lays119_ren := {
 mixed := by kernel_rfl
 f119 := Tryz.func211.trans (congrArg some (by kernel_rfl))
 t4 := Tryz.underlying4
 a4 := Tryz.isAgg4
 z4 := Tryz.sizeOf4
 v4 := Tryz.zeroValue4
 t21 := Tryz.underlying21
 a21 := Tryz.isAgg21
 z21 := Tryz.sizeOf21
 v21 := Tryz.zeroValue21 }
theorem Tryz.utf8_ValidRune (r : Int) (w : World) :
   Calls Tryz.prog 211 #[.int .i32 r] w fun e w' => e = .returned (.bool (Lib.validRune r)) ∧ w' = w := Any.utf8_ValidRune Tryz.lays119 r w
def Tryz.lays137_ren : Go.Shelf.Ren := ⟨fun | 137 => 83 | 217 => 136 | 266 => 187 | n => n, fun | 9 => 9 | 5 => 5 | 3 => 3 | n => n, fun | n => n⟩
theorem Tryz.lays137 : Go.Proofs.Lays.n137 Tryz.prog Tryz.lays137_ren := {
 mixed := by kernel_rfl
 f137 := Tryz.func83.trans (congrArg some (by kernel_rfl))
 f217 := Tryz.func136.trans (congrArg some (by kernel_rfl))
 f266 := Tryz.func187.trans (congrArg some (by kernel_rfl))
 t3 := Tryz.underlying3
 a3 := Tryz.isAgg3
 z3 := Tryz.sizeOf3
 v3 := Tryz.zeroValue3
 t5 := Tryz.underlying5
 a5 := Tryz.isAgg5
 z5 := Tryz.sizeOf5
 v5 := Tryz.zeroValue5
 t9 := Tryz.underlying9
 a9 := Tryz.isAgg9
 z9 := Tryz.sizeOf9
 v9 := Tryz.zeroValue9 }
open Go.RowKit in
theorem Tryz.strings_IndexByte (s : ByteArray) (c : Int) (w : World) :
   Calls Tryz.prog 83 #[.string s, .int .u8 c] w fun e w' => e = .returned (.int .i64 (Lib.indexByte s.data.toList c.toNat.toUInt8)) ∧ w' = w := Any.strings_IndexByte Tryz.lays137 s c w
def Tryz.lays143_ren : Go.Shelf.Ren := ⟨fun | 143 => 160 | 219 => 216 | 217 => 136 | 225 => 213 | 224 => 212 | 267 => 257 | 266 => 187 | 314 => 275 | n => n, fun | 9 => 9 | 3 => 3 | 4 => 4 | 5 => 5 | 46 => 195 | 146 => 293 | 51 => 238 | n => n, fun | 1 => 0 | n => n⟩
theorem Tryz.lays143 : Go.Proofs.Lays.n143 Tryz.prog Tryz.lays143_ren := {
 mixed := by kernel_rfl
 f143 := Tryz.func160.trans (congrArg some (by kernel_rfl))
 f217 := Tryz.func136.trans (congrArg some (by kernel_rfl))
 f219 := Tryz.func216.trans (congrArg some (by kernel_rfl))
 f224 := Tryz.func212.trans (congrArg some (by kernel_rfl))
 f225 := Tryz.func213.trans (congrArg some (by kernel_rfl))
 f266 := Tryz.func187.trans (congrArg some (by kernel_rfl))
 f267 := Tryz.func257.trans (congrArg some (by kernel_rfl))
 f314 := Tryz.func275.trans (congrArg some (by kernel_rfl))
 t3 := Tryz.underlying3
 a3 := Tryz.isAgg3
 z3 := Tryz.sizeOf3
 v3 := Tryz.zeroValue3
 t4 := Tryz.underlying4
 a4 := Tryz.isAgg4
 z4 := Tryz.sizeOf4
 v4 := Tryz.zeroValue4
 t5 := Tryz.underlying5
 a5 := Tryz.isAgg5
 z5 := Tryz.sizeOf5
 v5 := Tryz.zeroValue5
 t9 := Tryz.underlying9
 a9 := Tryz.isAgg9
 z9 := Tryz.sizeOf9
 v9 := Tryz.zeroValue9
 t46 := Tryz.underlying195
 a46 := Tryz.isAgg195
 z46 := Tryz.sizeOf195
 v46 := Tryz.zeroValue195
 t51 := Tryz.underlying238
 a51 := Tryz.isAgg238
 z51 := Tryz.sizeOf238
 v51 := Tryz.zeroValue238
 t146 := Tryz.underlying293
 a146 := Tryz.isAgg293
 z146 := Tryz.sizeOf293
 v146 := Tryz.zeroValue293
 g1 := by kernel_rfl }
open Go.RowKit Go.Lib in
theorem Tryz.strings_Index_one (s : ByteArray) (c : UInt8) (w : World) :
   Calls Tryz.prog 160 #[.string s, .string ⟨#[c]⟩] w fun e w' => e = .returned (.int .i64 (Lib.indexByte s.data.toList c)) ∧ w' = w := Any.strings_Index_one Tryz.lays143 s c w
def Tryz.lays144_ren : Go.Shelf.Ren := ⟨fun | 144 => 96 | 143 => 160 | 219 => 216 | 217 => 136 | 225 => 213 | 224 => 212 | 267 => 257 | 266 => 187 | 314 => 275 | n => n, fun | 9 => 9 | 4 => 4 | 3 => 3 | 5 => 5 | 46 => 195 | 146 => 293 | 51 => 238 | n => n, fun | 1 => 0 | n => n⟩
theorem Tryz.lays144 : Go.Proofs.Lays.n144 Tryz.prog Tryz.lays144_ren := {
 mixed := by kernel_rfl
 f143 := Tryz.func160.trans (congrArg some (by kernel_rfl))
 f144 := Tryz.func96.trans (congrArg some (by kernel_rfl))
 f217 := Tryz.func136.trans (congrArg some (by kernel_rfl))
 f219 := Tryz.func216.trans (congrArg some (by kernel_rfl))
 f224 := Tryz.func212.trans (congrArg some (by kernel_rfl))
 f225 := Tryz.func213.trans (congrArg some (by kernel_rfl))
 f266 := Tryz.func187.trans (congrArg some (by kernel_rfl))
 f267 := Tryz.func257.trans (congrArg some (by kernel_rfl))
 f314 := Tryz.func275.trans (congrArg some (by kernel_rfl))
 t3 := Tryz.underlying3
 a3 := Tryz.isAgg3
 z3 := Tryz.sizeOf3
 v3 := Tryz.zeroValue3
 t4 := Tryz.underlying4
 a4 := Tryz.isAgg4
 z4 := Tryz.sizeOf4
 v4 := Tryz.zeroValue4
 t5 := Tryz.underlying5
 a5 := Tryz.isAgg5
 z5 := Tryz.sizeOf5
 v5 := Tryz.zeroValue5
 t9 := Tryz.underlying9
 a9 := Tryz.isAgg9
 z9 := Tryz.sizeOf9
 v9 := Tryz.zeroValue9
 t46 := Tryz.underlying195
 a46 := Tryz.isAgg195
 z46 := Tryz.sizeOf195
 v46 := Tryz.zeroValue195
 t51 := Tryz.underlying238
 a51 := Tryz.isAgg238
 z51 := Tryz.sizeOf238
 v51 := Tryz.zeroValue238
 t146 := Tryz.underlying293
 a146 := Tryz.isAgg293
 z146 := Tryz.sizeOf293
 v146 := Tryz.zeroValue293
 g1 := by kernel_rfl }
open Go.RowKit Go.Lib in
theorem Tryz.strings_Contains_one (s : ByteArray) (c : UInt8) (w : World) :
   Calls Tryz.prog 96 #[.string s, .string ⟨#[c]⟩] w fun e w' => e = .returned (.bool (decide (0 ≤ Lib.indexByte s.data.toList c))) ∧ w' = w := Any.strings_Contains_one Tryz.lays144 s c w
def Tryz.lays138_ren : Go.Shelf.Ren := ⟨fun | 138 => 166 | 195 => 219 | 218 => 221 | 143 => 160 | 219 => 216 | 217 => 136 | 225 => 213 | 224 => 212 | 267 => 257 | 266 => 187 | 314 => 275 | n => n, fun | 9 => 9 | 3 => 3 | 4 => 4 | 5 => 5 | 0 => 0 | 46 => 195 | 146 => 293 | 51 => 238 | n => n, fun | 1 => 0 | n => n⟩
theorem Tryz.lays138 : Go.Proofs.Lays.n138 Tryz.prog Tryz.lays138_ren := {
 mixed := by kernel_rfl
 f138 := Tryz.func166.trans (congrArg some (by kernel_rfl))
 f143 := Tryz.func160.trans (congrArg some (by kernel_rfl))
 f195 := Tryz.func219.trans (congrArg some (by kernel_rfl))
 f217 := Tryz.func136.trans (congrArg some (by kernel_rfl))
 f218 := Tryz.func221.trans (congrArg some (by kernel_rfl))
 f219 := Tryz.func216.trans (congrArg some (by kernel_rfl))
 f224 := Tryz.func212.trans (congrArg some (by kernel_rfl))
 f225 := Tryz.func213.trans (congrArg some (by kernel_rfl))
 f266 := Tryz.func187.trans (congrArg some (by kernel_rfl))
 f267 := Tryz.func257.trans (congrArg some (by kernel_rfl))
 f314 := Tryz.func275.trans (congrArg some (by kernel_rfl))
 t0 := Tryz.underlying0
 a0 := Tryz.isAgg0
 z0 := Tryz.sizeOf0
 v0 := Tryz.zeroValue0
 t3 := Tryz.underlying3
 a3 := Tryz.isAgg3
 z3 := Tryz.sizeOf3
 v3 := Tryz.zeroValue3
 t4 := Tryz.underlying4
 a4 := Tryz.isAgg4
 z4 := Tryz.sizeOf4
 v4 := Tryz.zeroValue4
 t5 := Tryz.underlying5
 a5 := Tryz.isAgg5
 z5 := Tryz.sizeOf5
 v5 := Tryz.zeroValue5
 t9 := Tryz.underlying9
 a9 := Tryz.isAgg9
 z9 := Tryz.sizeOf9
 v9 := Tryz.zeroValue9
 t46 := Tryz.underlying195
 a46 := Tryz.isAgg195
 z46 := Tryz.sizeOf195
 v46 := Tryz.zeroValue195
 t51 := Tryz.underlying238
 a51 := Tryz.isAgg238
 z51 := Tryz.sizeOf238
 v51 := Tryz.zeroValue238
 t146 := Tryz.underlying293
 a146 := Tryz.isAgg293
 z146 := Tryz.sizeOf293
 v146 := Tryz.zeroValue293
 g1 := by kernel_rfl }
open Go.RowKit Go.Lib in
theorem Tryz.strings_Count_one (s : ByteArray) (c : UInt8) (w : World) :
   Calls Tryz.prog 166 #[.string s, .string ⟨#[c]⟩] w fun e w' => e = .returned (.int .i64 (Lib.countByte s.data.toList c)) ∧ w' = w := Any.strings_Count_one Tryz.lays138 s c w
def Tryz.lays190_ren : Go.Shelf.Ren := ⟨fun | 190 => 159 | 125 => 143 | 258 => 215 | 128 => 203 | 129 => 204 | 302 => 248 | 303 => 249 | 304 => 250 | 305 => 251 | 306 => 252 | 307 => 253 | 308 => 254 | 309 => 255 | 310 => 256 | 333 => 272 | 329 => 242 | 330 => 243 | 334 => 273 | 335 => 274 | 336 => 144 | 344 => 285 | n => n, fun | 31 => 42 | 9 => 9 | 3 => 3 | 46 => 195 | 0 => 0 | 51 => 238 | 53 => 156 | 4 => 4 | 183 => 231 | 182 => 230 | 131 => 235 | 5 => 5 | 218 => 271 | 222 => 275 | 228 => 288 | 229 => 289 | n => n, fun | n => n⟩
theorem Tryz.lays190 : Go.Proofs.Lays.n190 Tryz.prog Tryz.lays190_ren := {
 mixed := by kernel_rfl
 f125 := Tryz.func143.trans (congrArg some (by kernel_rfl))
 f128 := Tryz.func203.trans (congrArg some (by kernel_rfl))
 f129 := Tryz.func204.trans (congrArg some (by kernel_rfl))
 f190 := Tryz.func159.trans (congrArg some (by kernel_rfl))
 f258 := Tryz.func215.trans (congrArg some (by kernel_rfl))
 f302 := Tryz.func248.trans (congrArg some (by kernel_rfl))
 f303 := Tryz.func249.trans (congrArg some (by kernel_rfl))
 f304 := Tryz.func250.trans (congrArg some (by kernel_rfl))
 f305 := Tryz.func251.trans (congrArg some (by kernel_rfl))
 f306 := Tryz.func252.trans (congrArg some (by kernel_rfl))
 f307 := Tryz.func253.trans (congrArg some (by kernel_rfl))
 f308 := Tryz.func254.trans (congrArg some (by kernel_rfl))
 f309 := Tryz.func255.trans (congrArg some (by kernel_rfl))
 f310 := Tryz.func256.trans (congrArg some (by kernel_rfl))
 f329 := Tryz.func242.trans (congrArg some (by kernel_rfl))
 f330 := Tryz.func243.trans (congrArg some (by kernel_rfl))
 f333 := Tryz.func272.trans (congrArg some (by kernel_rfl))
 f334 := Tryz.func273.trans (congrArg some (by kernel_rfl))
 f335 := Tryz.func274.trans (congrArg some (by kernel_rfl))
 f336 := Tryz.func144.trans (congrArg some (by kernel_rfl))
 f344 := Tryz.func285.trans (congrArg some (by kernel_rfl))
 t0 := Tryz.underlying0
 a0 := Tryz.isAgg0
 z0 := Tryz.sizeOf0
 v0 := Tryz.zeroValue0
 t3 := Tryz.underlying3
 a3 := Tryz.isAgg3
 z3 := Tryz.sizeOf3
 v3 := Tryz.zeroValue3
 t4 := Tryz.underlying4
 a4 := Tryz.isAgg4
 z4 := Tryz.sizeOf4
 v4 := Tryz.zeroValue4
 t5 := Tryz.underlying5
 a5 := Tryz.isAgg5
 z5 := Tryz.sizeOf5
 v5 := Tryz.zeroValue5
 t9 := Tryz.underlying9
 a9 := Tryz.isAgg9
 z9 := Tryz.sizeOf9
 v9 := Tryz.zeroValue9
 t31 := Tryz.underlying42
 a31 := Tryz.isAgg42
 z31 := Tryz.sizeOf42
 v31 := Tryz.zeroValue42
 t46 := Tryz.underlying195
 a46 := Tryz.isAgg195
 z46 := Tryz.sizeOf195
 v46 := Tryz.zeroValue195
 t51 := Tryz.underlying238
 a51 := Tryz.isAgg238
 z51 := Tryz.sizeOf238
 v51 := Tryz.zeroValue238
 t53 := Tryz.underlying156
 a53 := Tryz.isAgg156
 z53 := Tryz.sizeOf156
 v53 := Tryz.zeroValue156
 t131 := Tryz.underlying235
 a131 := Tryz.isAgg235
 z131 := Tryz.sizeOf235
 v131 := Tryz.zeroValue235
 t182 := Tryz.underlying230
 a182 := Tryz.isAgg230
 z182 := Tryz.sizeOf230
 v182 := Tryz.zeroValue230
 t183 := Tryz.underlying231
 a183 := Tryz.isAgg231
 z183 := Tryz.sizeOf231
 v183 := Tryz.zeroValue231
 t218 := Tryz.underlying271
 a218 := Tryz.isAgg271
 z218 := Tryz.sizeOf271
 v218 := Tryz.zeroValue271
 t222 := Tryz.underlying275
 a222 := Tryz.isAgg275
 z222 := Tryz.sizeOf275
 v222 := Tryz.zeroValue275
 t228 := Tryz.underlying288
 a228 := Tryz.isAgg288
 z228 := Tryz.sizeOf288
 v228 := Tryz.zeroValue288
 t229 := Tryz.underlying289
 a229 := Tryz.isAgg289
 z229 := Tryz.sizeOf289
 v229 := Tryz.zeroValue289 }
open Go.Sort Go.RowKit in
theorem Tryz.slices_Sort_string (blk off cap : Nat) (ss : List (List UInt8)) (w : World) (hH : Holds encStr w blk off ss.toArray) (hblk : blk < w.heap.size) (hsz : ss.length < 4611686018427387904) :
   Calls Tryz.prog 159 #[.slice (some ⟨blk, off, none⟩) ss.length cap] w fun e w' =>
     e = .returned (.tuple #[]) ∧ ∃ n os, w' = grow (putRow encStr (Sort.ahead w n) blk off (ss.mergeSort fun x y => decide (x ≤ y)).toArray) os := Any.slices_Sort_string Tryz.lays190 blk off cap ss w hH hblk hsz
def Tryz.lays99_ren : Go.Shelf.Ren := ⟨fun | 99 => 47 | 206 => 99 | n => n, fun | 9 => 9 | 4 => 4 | 3 => 3 | n => n, fun | n => n⟩
theorem Tryz.lays99 : Go.Proofs.Lays.n99 Tryz.prog Tryz.lays99_ren := {
 mixed := by kernel_rfl
 f99 := Tryz.func47.trans (congrArg some (by kernel_rfl))
 f206 := Tryz.func99.trans (congrArg some (by kernel_rfl))
 t3 := Tryz.underlying3
 a3 := Tryz.isAgg3
 z3 := Tryz.sizeOf3
 v3 := Tryz.zeroValue3
 t4 := Tryz.underlying4
 a4 := Tryz.isAgg4
 z4 := Tryz.sizeOf4
 v4 := Tryz.zeroValue4
 t9 := Tryz.underlying9
 a9 := Tryz.isAgg9
 z9 := Tryz.sizeOf9
 v9 := Tryz.zeroValue9 }
open Go.RowKit Go.Lib in
theorem Tryz.strings_HasPrefix (s p : ByteArray) (w : World) :
   Calls Tryz.prog 47 #[.string s, .string p] w fun e w' => e = .returned (.bool (Lib.hasPrefix s.data.toList p.data.toList)) ∧ w' = w := Any.strings_HasPrefix Tryz.lays99 s p w
def Tryz.lays102_ren : Go.Shelf.Ren := ⟨fun | 102 => 94 | 209 => 158 | 207 => 214 | n => n, fun | 9 => 9 | 4 => 4 | 3 => 3 | n => n, fun | n => n⟩
theorem Tryz.lays102 : Go.Proofs.Lays.n102 Tryz.prog Tryz.lays102_ren := {
 mixed := by kernel_rfl
 f102 := Tryz.func94.trans (congrArg some (by kernel_rfl))
 f207 := Tryz.func214.trans (congrArg some (by kernel_rfl))
 f209 := Tryz.func158.trans (congrArg some (by kernel_rfl))
 t3 := Tryz.underlying3
 a3 := Tryz.isAgg3
 z3 := Tryz.sizeOf3
 v3 := Tryz.zeroValue3
 t4 := Tryz.underlying4
 a4 := Tryz.isAgg4
 z4 := Tryz.sizeOf4
 v4 := Tryz.zeroValue4
 t9 := Tryz.underlying9
 a9 := Tryz.isAgg9
 z9 := Tryz.sizeOf9
 v9 := Tryz.zeroValue9 }
open Go.RowKit Go.Lib in
theorem Tryz.strings_TrimSuffix (s p : ByteArray) (w : World) (hs : s.size ≤ 9223372036854775807) :
   Calls Tryz.prog 94 #[.string s, .string p] w fun e w' => e = .returned (.string ⟨(Lib.trimSuffix s.data.toList p.data.toList).toArray⟩) ∧ w' = w := Any.strings_TrimSuffix Tryz.lays102 s p w hs
def Tryz.lays146_ren : Go.Shelf.Ren := ⟨fun | 146 => 50 | 221 => 105 | 268 => 165 | 138 => 166 | 143 => 160 | 195 => 219 | 197 => 220 | 218 => 221 | 219 => 216 | 260 => 259 | 217 => 136 | 225 => 213 | 224 => 212 | 267 => 257 | 266 => 187 | 314 => 275 | n => n, fun | 9 => 9 | 31 => 42 | 3 => 3 | 4 => 4 | 0 => 0 | 105 => 250 | 21 => 21 | 5 => 5 | 46 => 195 | 119 => 296 | 139 => 299 | 138 => 298 | 146 => 293 | 51 => 238 | n => n, fun | 1 => 0 | 3 => 1 | 4 => 2 | n => n⟩
theorem Tryz.lays146 : Go.Proofs.Lays.n146 Tryz.prog Tryz.lays146_ren := {
 mixed := by kernel_rfl
 f138 := Tryz.func166.trans (congrArg some (by kernel_rfl))
 f143 := Tryz.func160.trans (congrArg some (by kernel_rfl))
 f146 := Tryz.func50.trans (congrArg some (by kernel_rfl))
 f195 := Tryz.func219.trans (congrArg some (by kernel_rfl))
 f197 := Tryz.func220.trans (congrArg some (by kernel_rfl))
 f217 := Tryz.func136.trans (congrArg some (by kernel_rfl))
 f218 := Tryz.func221.trans (congrArg some (by kernel_rfl))
 f219 := Tryz.func216.trans (congrArg some (by kernel_rfl))
 f221 := Tryz.func105.trans (congrArg some (by kernel_rfl))
 f224 := Tryz.func212.trans (congrArg some (by kernel_rfl))
 f225 := Tryz.func213.trans (congrArg some (by kernel_rfl))
 f260 := Tryz.func259.trans (congrArg some (by kernel_rfl))
 f266 := Tryz.func187.trans (congrArg some (by kernel_rfl))
 f267 := Tryz.func257.trans (congrArg some (by kernel_rfl))
 f268 := Tryz.func165.trans (congrArg some (by kernel_rfl))
 f314 := Tryz.func275.trans (congrArg some (by kernel_rfl))
 t0 := Tryz.underlying0
 a0 := Tryz.isAgg0
 z0 := Tryz.sizeOf0
 v0 := Tryz.zeroValue0
 t3 := Tryz.underlying3
 a3 := Tryz.isAgg3
 z3 := Tryz.sizeOf3
 v3 := Tryz.zeroValue3
 t4 := Tryz.underlying4
 a4 := Tryz.isAgg4
 z4 := Tryz.sizeOf4
 v4 := Tryz.zeroValue4
 t5 := Tryz.underlying5
 a5 := Tryz.isAgg5
 z5 := Tryz.sizeOf5
 v5 := Tryz.zeroValue5
 t9 := Tryz.underlying9
 a9 := Tryz.isAgg9
 z9 := Tryz.sizeOf9
 v9 := Tryz.zeroValue9
 t21 := Tryz.underlying21
 a21 := Tryz.isAgg21
 z21 := Tryz.sizeOf21
 v21 := Tryz.zeroValue21
 t31 := Tryz.underlying42
 a31 := Tryz.isAgg42
 z31 := Tryz.sizeOf42
 v31 := Tryz.zeroValue42
 t46 := Tryz.underlying195
 a46 := Tryz.isAgg195
 z46 := Tryz.sizeOf195
 v46 := Tryz.zeroValue195
 t51 := Tryz.underlying238
 a51 := Tryz.isAgg238
 z51 := Tryz.sizeOf238
 v51 := Tryz.zeroValue238
 t105 := Tryz.underlying250
 a105 := Tryz.isAgg250
 z105 := Tryz.sizeOf250
 v105 := Tryz.zeroValue250
 t119 := Tryz.underlying296
 a119 := Tryz.isAgg296
 z119 := Tryz.sizeOf296
 t138 := Tryz.underlying298
 a138 := Tryz.isAgg298
 z138 := Tryz.sizeOf298
 v138 := Tryz.zeroValue298
 t139 := Tryz.underlying299
 a139 := Tryz.isAgg299
 z139 := Tryz.sizeOf299
 v139 := Tryz.zeroValue299
 t146 := Tryz.underlying293
 a146 := Tryz.isAgg293
 z146 := Tryz.sizeOf293
 v146 := Tryz.zeroValue293
 g1 := by kernel_rfl
 g3 := by kernel_rfl
 g4 := by kernel_rfl }
open Go.RowKit Go.Lib in
theorem Tryz.strings_Split (s sep : ByteArray) (m : Int) (w : World) (hs : s.size < 4294967281) (hm : w.cell? ⟨0, 0, none⟩ = some (.int .i64 m)) (h1 : 1 ≤ sep.size) :
   Calls Tryz.prog 50 #[.string s, .string sep] w fun e w' =>
     e = .returned (.slice (some ⟨w.heap.size, 0, none⟩) (Lib.countB s sep + 1) (Lib.countB s sep + 1)) ∧ w' = w.alloc (.cells ((Lib.splitB sep 0 (Lib.countB s sep) s).map Value.string).toArray 9) := Any.strings_Split Tryz.lays146 (by kernel_rfl) s sep m w hs hm h1
def Tryz.laysM146_ren : Go.Shelf.Ren := ⟨fun | 146 => 50 | 221 => 105 | 268 => 165 | 138 => 166 | 143 => 160 | 195 => 219 | 197 => 220 | 218 => 221 | 219 => 216 | 260 => 259 | 217 => 136 | 225 => 213 | 224 => 212 | 267 => 257 | 266 => 187 | 314 => 275 | n => n, fun | 9 => 9 | 31 => 42 | 3 => 3 | 4 => 4 | 0 => 0 | 105 => 250 | 21 => 21 | 5 => 5 | 46 => 195 | 119 => 296 | 139 => 299 | 138 => 298 | 146 => 293 | 51 => 238 | n => n, fun | 1 => 0 | 3 => 1 | 4 => 2 | n => n⟩
theorem Tryz.laysM146 : Go.Proofs.LaysM.n146 Tryz.prog Tryz.laysM146_ren := {
 mixed := by kernel_rfl
 f138 := Tryz.func166.trans (congrArg some (by kernel_rfl))
 f143 := Tryz.func160.trans (congrArg some (by kernel_rfl))
 f146 := Tryz.func50.trans (congrArg some (by kernel_rfl))
 f195 := Tryz.func219.trans (congrArg some (by kernel_rfl))
 f197 := Tryz.func220.trans (congrArg some (by kernel_rfl))
 f217 := Tryz.func136.trans (congrArg some (by kernel_rfl))
 f218 := Tryz.func221.trans (congrArg some (by kernel_rfl))
 f219 := Tryz.func216.trans (congrArg some (by kernel_rfl))
 f221 := Tryz.func105.trans (congrArg some (by kernel_rfl))
 f224 := Tryz.func212.trans (congrArg some (by kernel_rfl))
 f225 := Tryz.func213.trans (congrArg some (by kernel_rfl))
 f260 := Tryz.func259.trans (congrArg some (by kernel_rfl))
 f266 := Tryz.func187.trans (congrArg some (by kernel_rfl))
 f267 := Tryz.func257.trans (congrArg some (by kernel_rfl))
 f268 := Tryz.func165.trans (congrArg some (by kernel_rfl))
 f314 := Tryz.func275.trans (congrArg some (by kernel_rfl))
 t0 := Tryz.underlying0
 a0 := Tryz.isAgg0
 z0 := Tryz.sizeOf0
 v0 := Tryz.zeroValue0
 t3 := Tryz.underlying3
 a3 := Tryz.isAgg3
 z3 := Tryz.sizeOf3
 v3 := Tryz.zeroValue3
 t4 := Tryz.underlying4
 a4 := Tryz.isAgg4
 z4 := Tryz.sizeOf4
 v4 := Tryz.zeroValue4
 t5 := Tryz.underlying5
 a5 := Tryz.isAgg5
 z5 := Tryz.sizeOf5
 v5 := Tryz.zeroValue5
 t9 := Tryz.underlying9
 a9 := Tryz.isAgg9
 z9 := Tryz.sizeOf9
 v9 := Tryz.zeroValue9
 t21 := Tryz.underlying21
 a21 := Tryz.isAgg21
 z21 := Tryz.sizeOf21
 v21 := Tryz.zeroValue21
 t31 := Tryz.underlying42
 a31 := Tryz.isAgg42
 z31 := Tryz.sizeOf42
 v31 := Tryz.zeroValue42
 t46 := Tryz.underlying195
 a46 := Tryz.isAgg195
 z46 := Tryz.sizeOf195
 v46 := Tryz.zeroValue195
 t51 := Tryz.underlying238
 a51 := Tryz.isAgg238
 z51 := Tryz.sizeOf238
 v51 := Tryz.zeroValue238
 t105 := Tryz.underlying250
 a105 := Tryz.isAgg250
 z105 := Tryz.sizeOf250
 v105 := Tryz.zeroValue250
 t119 := Tryz.underlying296
 a119 := Tryz.isAgg296
 z119 := Tryz.sizeOf296
 t138 := Tryz.underlying298
 a138 := Tryz.isAgg298
 z138 := Tryz.sizeOf298
 v138 := Tryz.zeroValue298
 t139 := Tryz.underlying299
 a139 := Tryz.isAgg299
 z139 := Tryz.sizeOf299
 v139 := Tryz.zeroValue299
 t146 := Tryz.underlying293
 a146 := Tryz.isAgg293
 z146 := Tryz.sizeOf293
 v146 := Tryz.zeroValue293
 g1 := by kernel_rfl
 g3 := by kernel_rfl
 g4 := by kernel_rfl
 i0 := by kernel_rfl
 i3 := by kernel_rfl
 i4 := by kernel_rfl
 i5 := by kernel_rfl
 i9 := by kernel_rfl
 i21 := by kernel_rfl
 i31 := by kernel_rfl
 i46 := by kernel_rfl
 i51 := by kernel_rfl
 i105 := by kernel_rfl
 i138 := by kernel_rfl
 i139 := by kernel_rfl
 i146 := by kernel_rfl
 m1 := by kernel_rfl
 s1_3 := fun w h => Go.Proofs.cell_of_shapedOpen_int (zero := #[.int .i64 0]) (t := 3) h (of_decide_eq_true (by kernel_rfl)) (by kernel_rfl) rfl (by kernel_rfl) (by kernel_rfl) Tryz.underlying3
 m3 := by kernel_rfl
 m4 := by kernel_rfl }
def Tryz.lays152_ren : Go.Shelf.Ren := ⟨fun | 152 => 154 | 137 => 83 | 119 => 211 | 224 => 212 | 225 => 213 | 217 => 136 | 266 => 187 | n => n, fun | 9 => 9 | 21 => 21 | 3 => 3 | 4 => 4 | 5 => 5 | 0 => 0 | 46 => 195 | n => n, fun | n => n⟩
theorem Tryz.lays152 : Go.Proofs.Lays.n152 Tryz.prog Tryz.lays152_ren := {
 mixed := by kernel_rfl
 f119 := Tryz.func211.trans (congrArg some (by kernel_rfl))
 f137 := Tryz.func83.trans (congrArg some (by kernel_rfl))
 f152 := Tryz.func154.trans (congrArg some (by kernel_rfl))
 f217 := Tryz.func136.trans (congrArg some (by kernel_rfl))
 f224 := Tryz.func212.trans (congrArg some (by kernel_rfl))
 f225 := Tryz.func213.trans (congrArg some (by kernel_rfl))
 f266 := Tryz.func187.trans (congrArg some (by kernel_rfl))
 t0 := Tryz.underlying0
 a0 := Tryz.isAgg0
 z0 := Tryz.sizeOf0
 v0 := Tryz.zeroValue0
 t3 := Tryz.underlying3
 a3 := Tryz.isAgg3
 z3 := Tryz.sizeOf3
 v3 := Tryz.zeroValue3
 t4 := Tryz.underlying4
 a4 := Tryz.isAgg4
 z4 := Tryz.sizeOf4
 v4 := Tryz.zeroValue4
 t5 := Tryz.underlying5
 a5 := Tryz.isAgg5
 z5 := Tryz.sizeOf5
 v5 := Tryz.zeroValue5
 t9 := Tryz.underlying9
 a9 := Tryz.isAgg9
 z9 := Tryz.sizeOf9
 v9 := Tryz.zeroValue9
 t21 := Tryz.underlying21
 a21 := Tryz.isAgg21
 z21 := Tryz.sizeOf21
 v21 := Tryz.zeroValue21
 t46 := Tryz.underlying195
 a46 := Tryz.isAgg195
 z46 := Tryz.sizeOf195
 v46 := Tryz.zeroValue195 }
open Go.RowKit Go.Lib in
theorem Tryz.strings_IndexRune_ascii (s : ByteArray) (r : Int) (w : World) (h0 : 0 ≤ r) (h1 : r < 128) :
   Calls Tryz.prog 154 #[.string s, .int .i32 r] w fun e w' => e = .returned (.int .i64 (Lib.indexByte s.data.toList r.toNat.toUInt8)) ∧ w' = w := Any.strings_IndexRune_ascii Tryz.lays152 s r w h0 h1
def Tryz.lays226_ren : Go.Shelf.Ren := ⟨fun | 226 => 155 | n => n, fun | 3 => 3 | 4 => 4 | n => n, fun | n => n⟩
theorem Tryz.lays226 : Go.Proofs.Lays.n226 Tryz.prog Tryz.lays226_ren := {
 mixed := by kernel_rfl
 f226 := Tryz.func155.trans (congrArg some (by kernel_rfl))
 t3 := Tryz.underlying3
 a3 := Tryz.isAgg3
 z3 := Tryz.sizeOf3
 v3 := Tryz.zeroValue3
 t4 := Tryz.underlying4
 a4 := Tryz.isAgg4
 z4 := Tryz.sizeOf4
 v4 := Tryz.zeroValue4 }
open Go.RowKit Go.Lib in
theorem Tryz.strings_shouldUseASCIISet (n : Int) (w : World) :
   Calls Tryz.prog 155 #[.int .i64 n] w fun e w' => e = .returned (.bool (decide (8 < n))) ∧ w' = w := Any.strings_shouldUseASCIISet Tryz.lays226 n w
def Tryz.lays153_ren : Go.Shelf.Ren := ⟨fun | 153 => 93 | 152 => 154 | 226 => 155 | 227 => 156 | 228 => 157 | 137 => 83 | 119 => 211 | 224 => 212 | 225 => 213 | 217 => 136 | 266 => 187 | n => n, fun | 9 => 9 | 3 => 3 | 4 => 4 | 5 => 5 | 21 => 21 | 117 => 203 | 116 => 202 | 0 => 0 | 46 => 195 | 124 => 222 | n => n, fun | n => n⟩
theorem Tryz.lays153 : Go.Proofs.Lays.n153 Tryz.prog Tryz.lays153_ren := {
 mixed := by kernel_rfl
 f119 := Tryz.func211.trans (congrArg some (by kernel_rfl))
 f137 := Tryz.func83.trans (congrArg some (by kernel_rfl))
 f152 := Tryz.func154.trans (congrArg some (by kernel_rfl))
 f153 := Tryz.func93.trans (congrArg some (by kernel_rfl))
 f217 := Tryz.func136.trans (congrArg some (by kernel_rfl))
 f224 := Tryz.func212.trans (congrArg some (by kernel_rfl))
 f225 := Tryz.func213.trans (congrArg some (by kernel_rfl))
 f226 := Tryz.func155.trans (congrArg some (by kernel_rfl))
 f227 := Tryz.func156.trans (congrArg some (by kernel_rfl))
 f228 := Tryz.func157.trans (congrArg some (by kernel_rfl))
 f266 := Tryz.func187.trans (congrArg some (by kernel_rfl))
 t0 := Tryz.underlying0
 a0 := Tryz.isAgg0
 z0 := Tryz.sizeOf0
 v0 := Tryz.zeroValue0
 t3 := Tryz.underlying3
 a3 := Tryz.isAgg3
 z3 := Tryz.sizeOf3
 v3 := Tryz.zeroValue3
 t4 := Tryz.underlying4
 a4 := Tryz.isAgg4
 z4 := Tryz.sizeOf4
 v4 := Tryz.zeroValue4
 t5 := Tryz.underlying5
 a5 := Tryz.isAgg5
 z5 := Tryz.sizeOf5
 v5 := Tryz.zeroValue5
 t9 := Tryz.underlying9
 a9 := Tryz.isAgg9
 z9 := Tryz.sizeOf9
 v9 := Tryz.zeroValue9
 t21 := Tryz.underlying21
 a21 := Tryz.isAgg21
 z21 := Tryz.sizeOf21
 v21 := Tryz.zeroValue21
 t46 := Tryz.underlying195
 a46 := Tryz.isAgg195
 z46 := Tryz.sizeOf195
 v46 := Tryz.zeroValue195
 t116 := Tryz.underlying202
 a116 := Tryz.isAgg202
 z116 := Tryz.sizeOf202
 t117 := Tryz.underlying203
 a117 := Tryz.isAgg203
 z117 := Tryz.sizeOf203
 v117 := Tryz.zeroValue203
 t124 := Tryz.underlying222
 a124 := Tryz.isAgg222
 z124 := Tryz.sizeOf222
 v124 := Tryz.zeroValue222 }
open Go.RowKit Go.Lib in
theorem Tryz.strings_IndexAny_long (hv116 : ∀ w, (zeroValue 202).run Tryz.prog w = .ok (.agg (Array.replicate 256 (.bool false))) w) (s chars : ByteArray) (w : World) (h2 : 2 ≤ chars.size) (h8 : 8 < s.size) (hs : s.size < 4294967281) (hcs : chars.size < 4294967281) (hascii : ∀ (j : Nat) b, chars.data.toList[j]? = some b → b.toNat < 128) :
   Calls Tryz.prog 93 #[.string s, .string chars] w fun e w' => e = .returned (.int .i64 (Lib.indexAny s.data.toList chars.data.toList)) ∧ w' = ((w.alloc (.cells (Lib.setCells chars.data.toList) 202)).alloc (.cells (Lib.setCells chars.data.toList) 202)) := Any.strings_IndexAny_long Tryz.lays153 hv116 (by kernel_rfl) s chars w h2 h8 hs hcs hascii
def Tryz.lays193_ren : Go.Shelf.Ren := ⟨fun | 193 => 232 | n => n, fun | 31 => 42 | 9 => 9 | 4 => 4 | 3 => 3 | 0 => 0 | n => n, fun | n => n⟩
theorem Tryz.lays193 : Go.Proofs.Lays.n193 Tryz.prog Tryz.lays193_ren := {
 mixed := by kernel_rfl
 f193 := Tryz.func232.trans (congrArg some (by kernel_rfl))
 t0 := Tryz.underlying0
 a0 := Tryz.isAgg0
 z0 := Tryz.sizeOf0
 v0 := Tryz.zeroValue0
 t3 := Tryz.underlying3
 a3 := Tryz.isAgg3
 z3 := Tryz.sizeOf3
 v3 := Tryz.zeroValue3
 t4 := Tryz.underlying4
 a4 := Tryz.isAgg4
 z4 := Tryz.sizeOf4
 v4 := Tryz.zeroValue4
 t9 := Tryz.underlying9
 a9 := Tryz.isAgg9
 z9 := Tryz.sizeOf9
 v9 := Tryz.zeroValue9
 t31 := Tryz.underlying42
 a31 := Tryz.isAgg42
 z31 := Tryz.sizeOf42
 v31 := Tryz.zeroValue42 }
open Go.RowKit Go.Lib in
theorem Tryz.slices_Equal_string (b1 o1 n c b2 o2 m d : Nat) (xs ys : List ByteArray) (w : World) (hx : n ≤ xs.length) (hy : m ≤ ys.length) (hbig : n ≤ 9223372036854775807) (hbig2 : m ≤ 9223372036854775807) (hc1 : ∀ j, j < xs.length → w.cell? ⟨b1, o1 + j, none⟩ = some (.string (xs.getD j ByteArray.empty))) (hc2 : ∀ j, j < ys.length → w.cell? ⟨b2, o2 + j, none⟩ = some (.string (ys.getD j ByteArray.empty))) :
   Calls Tryz.prog 232 #[.slice (some ⟨b1, o1, none⟩) n c, .slice (some ⟨b2, o2, none⟩) m d] w fun e w' => e = .returned (.bool (decide (xs.take n = ys.take m))) ∧ ∃ q, w' = w.drewN q := Any.slices_Equal_string Tryz.lays193 b1 o1 n c b2 o2 m d xs ys w hx hy hbig hbig2 hc1 hc2
open Go.RowKit Go.Lib in
theorem Tryz.slices_Equal_string_empty (a1 a2 : Option Addr) (c m d : Nat) (w : World) (hbig2 : m ≤ 9223372036854775807) :
   Calls Tryz.prog 232 #[.slice a1 0 c, .slice a2 m d] w fun e w' => e = .returned (.bool (decide (m = 0))) ∧ w' = w := Any.slices_Equal_string_empty Tryz.lays193 a1 a2 c m d w hbig2
def Tryz.lays194_ren : Go.Shelf.Ren := ⟨fun | 194 => 223 | n => n, fun | 31 => 42 | 9 => 9 | 3 => 3 | 4 => 4 | 0 => 0 | n => n, fun | n => n⟩
theorem Tryz.lays194 : Go.Proofs.Lays.n194 Tryz.prog Tryz.lays194_ren := {
 mixed := by kernel_rfl
 f194 := Tryz.func223.trans (congrArg some (by kernel_rfl))
 t0 := Tryz.underlying0
 a0 := Tryz.isAgg0
 z0 := Tryz.sizeOf0
 v0 := Tryz.zeroValue0
 t3 := Tryz.underlying3
 a3 := Tryz.isAgg3
 z3 := Tryz.sizeOf3
 v3 := Tryz.zeroValue3
 t4 := Tryz.underlying4
 a4 := Tryz.isAgg4
 z4 := Tryz.sizeOf4
 v4 := Tryz.zeroValue4
 t9 := Tryz.underlying9
 a9 := Tryz.isAgg9
 z9 := Tryz.sizeOf9
 v9 := Tryz.zeroValue9
 t31 := Tryz.underlying42
 a31 := Tryz.isAgg42
 z31 := Tryz.sizeOf42
 v31 := Tryz.zeroValue42 }
open Go.RowKit Go.Lib Go.Sort in
theorem Tryz.slices_Compact_string (blk off cap : Nat) (zs : List (List UInt8)) (w : World) (hH : Holds encStr w blk off zs.toArray) (hsz : zs.length ≤ 9223372036854775807) (hcap : zs.length ≤ cap) :
   Calls Tryz.prog 223 #[.slice (some ⟨blk, off, none⟩) zs.length cap] w fun e w' => e = .returned (.slice (some ⟨blk, off, none⟩) (Lib.compact zs).length cap) ∧ ∃ q, w' = putRow encStr (Sort.ahead w q) blk off (Lib.compact zs ++ List.replicate (zs.length - (Lib.compact zs).length) []).toArray := Any.slices_Compact_string Tryz.lays194 blk off cap zs w hH hsz hcap
open Go.RowKit Go.Lib Go.Sort in
theorem Tryz.slices_Compact_string_empty (a : Option Addr) (cap : Nat) (w : World) :
   Calls Tryz.prog 223 #[.slice a 0 cap] w fun e w' => e = .returned (.slice a 0 cap) ∧ w' = w := Any.slices_Compact_string_empty Tryz.lays194 a cap w
open Go.RowKit Go.Sort in
theorem Tryz.slices_Sort_string_none (p : Option Addr) (cap : Nat) (w : World) :
   Calls Tryz.prog 159 #[.slice p 0 cap] w fun e w' => e = .returned (.tuple #[]) ∧ w' = w := Any.slices_Sort_string_none Tryz.lays190 p cap w
open Go.RowKit Go.Lib in
theorem Tryz.slices_Equal_string_lens (a1 a2 : Option Addr) (n c m d : Nat) (w : World) (hnm : n ≠ m) :
   Calls Tryz.prog 232 #[.slice a1 n c, .slice a2 m d] w fun e w' => e = .returned (.bool false) ∧ w' = w := Any.slices_Equal_string_lens Tryz.lays193 a1 a2 n c m d w hnm
end Go.Proofs
namespace Go.Proofs.YtmcophlmcloooaaGreatDoor
section
open Go.RowKit Go.Deep Qm.Glob Qm.Base
open Go.Sort
attribute [local go_sem] bt_eq
def tl (s : ByteArray) : Tx := s.data.toList
def tb (l : Tx) : ByteArray := ⟨l.toArray⟩
theorem tb_tl (s : ByteArray) : tb (tl s) = s := by cases s; rfl
theorem map_tb_tl (L : List ByteArray) : (L.map tl).map tb = L := by
 rw [List.map_map]
 exact (List.map_congr_left fun s _ => tb_tl s).trans (List.map_id _)
theorem vals_tb (l : List Tx) : strVals (l.map tb) = l.map encStr := by
 rw [strVals, List.map_map]
 rfl
theorem vals_tl (L : List ByteArray) : strVals L = (L.map tl).map encStr := by
 rw [← vals_tb, map_tb_tl]
theorem sLt_tl (a b : ByteArray) : sLt a b = decide (tl a < tl b) := by
 rw [sLt, bytesLess_eq, ByteArray.toList_eq, ByteArray.toList_eq]
 rfl
theorem putS_tl (s : ByteArray) : ∀ L : List ByteArray, (putS s L).map tl = putT (tl s) (L.map tl)
 | [] => rfl
 | x :: L => by
   rw [putS, List.map_cons, putT, sLt_tl]
   by_cases h : tl x < tl s
   · rw [if_pos (by simpa using h), if_pos h, List.map_cons, putS_tl s L]
   · rw [if_neg (by simpa using h), if_neg h]
     by_cases e : x = s
     · rw [if_pos e, if_pos (by rw [e])]; rfl
     · rw [if_neg e, if_neg (fun e2 => e (by rw [← tb_tl x, ← tb_tl s, e2]))]; rfl
theorem putAll_tl : ∀ (F acc : List ByteArray), (F.foldl (fun acc s => putS s acc) acc).map tl = (F.map tl).foldl (fun acc s => putT s acc) (acc.map tl)
 | [], acc => rfl
 | s :: F, acc => by
   rw [List.foldl_cons, putAll_tl F, List.map_cons, List.foldl_cons, putS_tl]
theorem names_sorted (p : ByteArray) (L : List ByteArray) : (Lib.compact ((((L.filter (keepN p)).map tl).mergeSort fun x y => decide (x ≤ y)))).map tb = namesOf p L := by
 rw [sorted_put, putAll, show ([] : List Tx) = ([] : List ByteArray).map tl from rfl, ← putAll_tl, map_tb_tl]
 rfl
theorem hasdot_any (s : ByteArray) (w : World) : Calls Tryz.prog 47 #[.string s, .string ⟨#[46]⟩] w fun e w' => e = .returned (.bool (dotS s)) ∧ w = w' :=
 (Tryz.strings_HasPrefix s ⟨#[46]⟩ w).mono fun e w' ⟨h1, h2⟩ => ⟨by
   rw [h1]
   congr 2
   obtain ⟨⟨l⟩⟩ := s
   cases l with
   | nil => rfl
   | cons a l =>
     have e : dotS ⟨⟨a :: l⟩⟩ = (a.toNat == 46) := by simp [dotS, bt, ByteArray.size]
     rw [e]
     show (46 == a && true) = _
     rw [Bool.and_true, Bool.eq_iff_iff]
     simp only [beq_iff_eq]
     exact ⟨fun h => by rw [← h]; rfl, fun h => UInt8.toNat_inj.1 h.symm⟩, h2.symm⟩
def bsdP (p : ByteArray) : Bool := decide (1 < p.size) && bt p 0 == 92 && bt p 1 == 46
theorem hasbs_any (s : ByteArray) (w : World) : Calls Tryz.prog 47 #[.string s, .string ⟨#[92, 46]⟩] w fun e w' => e = .returned (.bool (bsdP s)) ∧ w = w' :=
 (Tryz.strings_HasPrefix s ⟨#[92, 46]⟩ w).mono fun e w' ⟨h1, h2⟩ => ⟨by
   rw [h1]
   congr 2
   obtain ⟨⟨l⟩⟩ := s
   rcases l with _ | ⟨a, _ | ⟨b, l⟩⟩
   · rfl
   · show (92 == a && false) = _
     rw [Bool.and_false]
     simp [bsdP, ByteArray.size]
   · have e : bsdP ⟨⟨a :: b :: l⟩⟩ = (a.toNat == 92 && b.toNat == 46) := by simp [bsdP, bt, ByteArray.size]
     rw [e]
     show (92 == a && (46 == b && true)) = _
     rw [Bool.and_true, Bool.eq_iff_iff]
     simp only [Bool.and_eq_true, beq_iff_eq]
     exact ⟨fun ⟨h, k⟩ => by rw [← h, ← k]; exact ⟨rfl, rfl⟩, fun ⟨h, k⟩ => ⟨UInt8.toNat_inj.1 h.symm, UInt8.toNat_inj.1 k.symm⟩⟩, h2.symm⟩
theorem dotP_eq (p : ByteArray) : dotP p = (dotS p || bsdP p) := rfl
theorem sort_own {w : World} {base : Nat} {v : Value} {F : List ByteArray} (h : OwnS w base v F) (hl : F.length ≤ 100000) :
   Calls Tryz.prog 159 #[v] w fun e w' => e = .returned (.tuple #[]) ∧ OwnS w' base v (((F.map tl).mergeSort fun x y => decide (x ≤ y)).map tb) ∧ w.grownBy w' v.ownBlock := by
 rcases h.2 with ⟨rfl, hn⟩ | ⟨g, cap, cur, rfl, hbg, hh, hc, hm, hs, ht⟩
 · have hF : F = [] := List.eq_nil_of_length_eq_zero hn
   subst hF
   exact (Tryz.slices_Sort_string_none none 0 w).mono fun e w' ⟨h1, h2⟩ => ⟨h1, by rw [h2]; simpa using OwnS.nil w base, by rw [h2]; exact World.grownBy.refl _ _⟩
 · have hlen : (F.map tl).length = F.length := by simp
   rw [Nat.mul_one] at ht
   have hH : Holds encStr w g 0 (F.map tl).toArray := holds_of_block hh (by rw [hlen, ht, vals_tl])
   have := Tryz.slices_Sort_string g 0 cap (F.map tl) w hH (h.lt g rfl).2 (by rw [hlen]; omega)
   rw [hlen] at this
   refine this.mono ?_
   rintro e w' ⟨rfl, n, os, rfl⟩
   refine ⟨rfl, ?_, grownBy_sorted _⟩
   have ho := ownsRow_sorted (n := n) (os := os) (ss := F.map tl) (ts := (F.map tl).mergeSort fun x y => decide (x ≤ y)) (by simp) hbg hh (by rw [hlen]; exact hc) hm hs
   unfold OwnS
   rw [vals_tb]
   simpa using ho
theorem compact_len (G : List Tx) : (Lib.compact G).length ≤ G.length := by
 unfold Lib.compact Lib.compactUpTo
 rw [List.length_map]
 exact Nat.le_trans (List.length_filter_le _ _) (by simp)
theorem compact_own {w : World} {base : Nat} {v : Value} {G : List Tx} (h : OwnS w base v (G.map tb)) (hl : G.length ≤ 100000) :
   Calls Tryz.prog 223 #[v] w fun e w' => (∃ A' c', e = .returned (.slice A' ((Lib.compact G).map tb).length c') ∧ SR w' A' ((Lib.compact G).map tb) ∧ ((Lib.compact G).map tb).length ≤ c' ∧ ∀ a, A' = some a → v.ownBlock = some a.block) ∧ w.grownBy w' v.ownBlock := by
 rcases h.2 with ⟨rfl, hn⟩ | ⟨g, cap, cur, rfl, hbg, hh, hc, hm, hs, ht⟩
 · have hG : G = [] := List.eq_nil_of_length_eq_zero (by simpa using hn)
   subst hG
   refine (Tryz.slices_Compact_string_empty none 0 w).mono fun e w' ⟨h1, h2⟩ => ⟨⟨none, 0, h1, SR.nil _ _, Nat.le_refl _, fun a e => by cases e⟩, by rw [h2]; exact World.grownBy.refl _ _⟩
 · have hlen : (G.map tb).length = G.length := by simp
   rw [Nat.mul_one, hlen] at ht
   rw [hlen] at hc
   have hH : Holds encStr w g 0 G.toArray := holds_of_block hh (by rw [ht, vals_tb])
   have hcl := compact_len G
   have := Tryz.slices_Compact_string g 0 cap G w hH (by omega) hc
   rw [hlen]
   refine this.mono ?_
   rintro e w' ⟨rfl, q, rfl⟩
   have hgb := grownBy_sorted (w := w) (g := g) (n := q) (os := #[]) (Lib.compact G ++ List.replicate (G.length - (Lib.compact G).length) []).toArray
   rw [grow_empty] at hgb
   refine ⟨⟨some ⟨g, 0, none⟩, cap, by rw [List.length_map], fun k s hk => ⟨g, 0, rfl, by simpa using (h.lt g rfl).2, ?_⟩, by rw [List.length_map]; omega, fun a e => by injection e with e; rw [← e]; rfl⟩, hgb⟩
   have hk2 : k < (Lib.compact G).length := by
     have := (List.getElem?_eq_some_iff.1 hk).1
     simpa using this
   have hs2 : s = tb (Lib.compact G)[k] := by
     rw [List.getElem?_map, List.getElem?_eq_getElem hk2] at hk
     injection hk with hk
     exact hk.symm
   rw [cell?_putRow encStr (Sort.ahead w q) g 0 G.toArray _ (holds_ahead _ _ _ _ _ _ hH) (by simp; omega) k (by simp; omega)]
   rw [getElem!_pos _ _ (by simp; omega)]
   simp only [List.getElem_toArray]
   rw [List.getElem_append_left hk2, hs2]
   rfl
end
section
open Go.RowKit Go.Deep Qm.Glob Qm.Base
attribute [local go_sem] bt_eq
theorem ItemsAt.more {w w' : World} {A : Option Addr} {B B' : Nat} {l : List GI} (h : ItemsAt w A B l) (hb : Below B w w') (hB : B ≤ B') : ItemsAt w' A B' l := fun k x hx => by
 obtain ⟨g, e, hg, hc⟩ := h k x hx
 exact ⟨g, e, by omega, fun j u hu => (hb.cell (p := ⟨g, k * 8 + j, none⟩) hg).trans (hc j u hu)⟩
theorem filter_snoc {α : Type} (f : α → Bool) (l : List α) (x : α) : (l ++ [x]).filter f = if f x then l.filter f ++ [x] else l.filter f := by
 rw [List.filter_append]
 cases h : f x <;> simp [h]
theorem gnames_any (p : ByteArray) (A : Option Addr) (c : Nat) (L : List ByteArray) (w : World) (hp : p.size ≤ 1000) (hL : ∀ (k : Nat) (s : ByteArray), L[k]? = some s → s.size ≤ 1000) (hn : L.length ≤ 1000) (hA : SR w A L) :
   Calls Tryz.prog 167 #[.string p, .slice A L.length c] w fun e w' => (∃ A' c', e = .returned (.slice A' (namesOf p L).length c') ∧ SR w' A' (namesOf p L) ∧ (namesOf p L).length ≤ c' ∧ ∀ a, A' = some a → w.heap.size ≤ a.block) ∧ Below w.heap.size w w' := by
 obtain ⟨n, hn1⟩ : ∃ n, L.length = n := ⟨_, rfl⟩
 rw [hn1]
 rw [hn1] at hn
 have HN := hide hn1
 have HA := hide hA
 have HL := hide hL
 clear hA hn1 hL
 go_enter Tryz.func167, Tryz.ntmps167
 go_wp2_with fail
 go_step3
 go_upto_region 1 with (fail)
 go_cut [5] from 10 to 16 (fun v5 w' => v5 = .bool (dotP p) ∧ w = w')
 case first =>
   have HQ := hide (dotP_eq p)
   cases hd : dotS p with
   | true =>
     have HD := hide hd
     clear hd
     go_wp2_with fail
     refine (hasdot_any p w).mono ?_
     rintro e w' ⟨rfl, rfl⟩
     rw [HD.out]
     go_wp2
     go_meet
     exact ⟨by rw [HQ.out, HD.out]; rfl, rfl⟩
   | false =>
     have HD := hide hd
     clear hd
     go_wp2_with fail
     refine (hasdot_any p w).mono ?_
     rintro e w' ⟨rfl, rfl⟩
     rw [HD.out]
     go_wp2_with fail
     refine (hasbs_any p w).mono ?_
     rintro e w' ⟨rfl, rfl⟩
     go_wp2
     go_meet
     exact ⟨by rw [HQ.out, HD.out]; rfl, rfl⟩
 case rest =>
   obtain ⟨rfl, rfl⟩ := hcut
   generalize hdp : dotP p = dp
   have HDQ := hide hdp
   clear hdp
   go_wp2_with fail
   refine (items_any p w hp).mono ?_
   rintro e w1 ⟨v, rfl, hown, hb⟩
   obtain ⟨AI, cI, rfl, hat⟩ := items_of_own hown
   have HAT := hide hat
   have HB1 := hide hb
   have HA1 := hide (HA.out.below hb)
   clear hat hb hown HA
   go_wp2
   go_step3
   go_wp2
   go_loopw [7, 20] (fun v7 v20 wr => ∃ k : Nat, v20 = .int .i64 k ∧ k ≤ n ∧ OwnS wr w1.heap.size v7 ((L.take k).filter (keepN p)) ∧ Below w1.heap.size w1 wr) (fun _ v20 _ => n - (intOf v20).toNat)
   case atStart => exact ⟨0, rfl, by omega, OwnS.nil _ _, Below.refl _ _⟩
   case round =>
     obtain ⟨k, rfl, hk, ho, hb⟩ := hrel
     have HO := hide ho
     have HB := hide hb
     clear ho hb
     by_cases hlt : k < n
     · obtain ⟨x, hx⟩ : ∃ x, L[k]? = some x := ⟨L[k]'(by have := HN.out; omega), gE _⟩
       have hxs := HL.out k x hx
       obtain ⟨g, o, rfl, hg, hcell⟩ := (HA1.out.below HB.out) k x hx
       have HX := hide (show (L.take (k + 1)).filter (keepN p) = if keepN p x then (L.take k).filter (keepN p) ++ [x] else (L.take k).filter (keepN p) by rw [take_snoc' hx, filter_snoc])
       have hkp : keepN p x = ((!dotS x || dp) && gMatch p x) := by rw [keepN, HDQ.out]
       have HKP := hide hkp
       have hfl : ((L.take k).filter (keepN p)).length ≤ 1000 := by
         have := List.length_filter_le (keepN p) (L.take k)
         simp at this
         omega
       clear hx hkp
       cases hd : dotS x with
       | true =>
         have HX0 := hide hd
         clear hd
         cases dp with
         | true =>
           have HD := hide (show (!dotS x || true) = true by simp)
           go_wp2_with fail
           refine (hasdot_any x wr).mono ?_
           rintro e w2 ⟨rfl, rfl⟩
           rw [HX0.out]
           go_wp2_with fail
           refine (ends_any x AI cI (gItems (bt p) p.size) wr hxs (Nat.le_trans (gItems_len _ _) hp) (HAT.out.more HB.out HB.out.size)).mono ?_
           rintro e w3 ⟨g3, rfl, hg3, hrow, hb3⟩
           have hm3 : w3.cell? ⟨g3, x.size, none⟩ = some (.bool (gMatch p x)) := hrow.cell (i := x.size) (by omega)
           have HO3 := hide (World.ownsRow.kept (row := none) HO.out ⟨hb3.os, hb3.tape, hb3.output, hb3.size, fun i hi _ => hb3.block i hi⟩ (Classical.em _))
           have HB3 := hide (below_up HB.out hb3 HB.out.size)
           clear hrow hb3 hg3
           cases hm : gMatch p x with
           | true =>
             rw [hm] at hm3
             have HK := hide (show keepN p x = true by rw [HKP.out, HD.out, hm]; rfl)
             clear hm
             obtain ⟨v4, w4, r4, o4, g4, b4⟩ := run_appS (OwnS.alloc HO3.out (.cells #[.string x] 9)) (sr_new w3 x) (by have := HB3.out.size; simp; omega) (by simp; omega)
             have HO4 := hide o4
             have HB4 := hide ((HB3.out.alloc HB3.out.size (.cells #[.string x] 9)).trans (Below.of_gb g4 (by have := HB3.out.size; simp; omega) (fun q hq => (OwnS.lt HO3.out q hq).1)))
             clear o4 g4 b4
             go_wp2_with (at_builtin; refine wpList_app_run ?_ (.tmp 37) (.tmp 39) ?_ ?_ ?_ ?_ r4 ?_; exact rfl; exact rfl; exact rfl; exact rfl; exact rfl)
             go_roundw
             case rel => exact ⟨k + 1, by go_num, by omega, by rw [HX.out, HK.out]; exact HO4.out, HB4.out⟩
             case measure => simp [intOf]; omega
           | false =>
             rw [hm] at hm3
             have HK := hide (show keepN p x = false by rw [HKP.out, hm, Bool.and_false])
             clear hm
             go_wp2
             go_roundw
             case rel => exact ⟨k + 1, by go_num, by omega, by rw [HX.out, HK.out]; exact HO3.out, HB3.out⟩
             case measure => simp [intOf]; omega
         | false =>
           have HK := hide (show keepN p x = false by rw [HKP.out, HX0.out]; rfl)
           go_wp2_with fail
           refine (hasdot_any x wr).mono ?_
           rintro e w2 ⟨rfl, rfl⟩
           rw [HX0.out]
           go_wp2
           go_roundw
           case rel => exact ⟨k + 1, by go_num, by omega, by rw [HX.out, HK.out]; exact HO.out, HB.out⟩
           case measure => simp [intOf]; omega
       | false =>
         have HX0 := hide hd
         clear hd
         have HD := hide (show (!dotS x || dp) = true by rw [HX0.out]; rfl)
         go_wp2_with fail
         refine (hasdot_any x wr).mono ?_
         rintro e w2 ⟨rfl, rfl⟩
         rw [HX0.out]
         go_wp2_with fail
         refine (ends_any x AI cI (gItems (bt p) p.size) wr hxs (Nat.le_trans (gItems_len _ _) hp) (HAT.out.more HB.out HB.out.size)).mono ?_
         rintro e w3 ⟨g3, rfl, hg3, hrow, hb3⟩
         have hm3 : w3.cell? ⟨g3, x.size, none⟩ = some (.bool (gMatch p x)) := hrow.cell (i := x.size) (by omega)
         have HO3 := hide (World.ownsRow.kept (row := none) HO.out ⟨hb3.os, hb3.tape, hb3.output, hb3.size, fun i hi _ => hb3.block i hi⟩ (Classical.em _))
         have HB3 := hide (below_up HB.out hb3 HB.out.size)
         clear hrow hb3 hg3
         cases hm : gMatch p x with
         | true =>
           rw [hm] at hm3
           have HK := hide (show keepN p x = true by rw [HKP.out, HD.out, hm]; rfl)
           clear hm
           obtain ⟨v4, w4, r4, o4, g4, b4⟩ := run_appS (OwnS.alloc HO3.out (.cells #[.string x] 9)) (sr_new w3 x) (by have := HB3.out.size; simp; omega) (by simp; omega)
           have HO4 := hide o4
           have HB4 := hide ((HB3.out.alloc HB3.out.size (.cells #[.string x] 9)).trans (Below.of_gb g4 (by have := HB3.out.size; simp; omega) (fun q hq => (OwnS.lt HO3.out q hq).1)))
           clear o4 g4 b4
           go_wp2_with (at_builtin; refine wpList_app_run ?_ (.tmp 37) (.tmp 39) ?_ ?_ ?_ ?_ r4 ?_; exact rfl; exact rfl; exact rfl; exact rfl; exact rfl)
           go_roundw
           case rel => exact ⟨k + 1, by go_num, by omega, by rw [HX.out, HK.out]; exact HO4.out, HB4.out⟩
           case measure => simp [intOf]; omega
         | false =>
           rw [hm] at hm3
           have HK := hide (show keepN p x = false by rw [HKP.out, hm, Bool.and_false])
           clear hm
           go_wp2
           go_roundw
           case rel => exact ⟨k + 1, by go_num, by omega, by rw [HX.out, HK.out]; exact HO3.out, HB3.out⟩
           case measure => simp [intOf]; omega
     · obtain rfl : k = n := by omega
       have HT := hide (show L.take k = L from List.take_of_length_le (by have := HN.out; omega))
       have hsort := sort_own HO.out (by rw [HT.out]; have := List.length_filter_le (keepN p) L; have := HN.out; omega)
       have HS := hide hsort
       clear hsort
       go_wp2_with fail
       refine HS.out.mono ?_
       rintro e w3 ⟨rfl, ho3, hg3⟩
       have hcomp := compact_own ho3 (by simp; rw [HT.out]; have := List.length_filter_le (keepN p) L; have := HN.out; omega)
       have HC := hide hcomp
       have HB3 := hide (HB.out.trans (Below.of_gb hg3 HB.out.size (fun q hq => (HO.out.lt q hq).1)))
       have hlt3 := ho3.lt
       have HLT := hide hlt3
       clear hcomp ho3 hg3 hlt3 HS
       go_wp2_with fail
       refine HC.out.mono ?_
       rintro e w4 ⟨⟨A4, c4, rfl, hs4, hc4, ha4⟩, hg4⟩
       have HB4 := hide (HB3.out.trans (Below.of_gb hg4 HB3.out.size (fun q hq => (HLT.out q hq).1)))
       have HE := hide (names_sorted p L)
       have HS4 := hide hs4
       have HC4 := hide hc4
       have HA4 := hide (fun a e => Nat.le_trans HB1.out.size (HLT.out _ (ha4 a e)).1)
       clear hs4 hc4 hg4 HC ha4
       rw [HT.out, HE.out]
       go_wp2
       rw [Exit.noGoto_ret]
       go_ret
       refine ⟨⟨A4, c4, rfl, ?_, ?_, HA4.out⟩, below_up HB1.out HB4.out HB1.out.size⟩
       · have := HS4.out; rw [HT.out, HE.out] at this; exact this
       · have := HC4.out; rw [HT.out, HE.out] at this; exact this
end
section
open Go.RowKit Go.Deep
attribute [local go_sem] bt_eq
def itW (W : World) (g : Nat) (s : ByteArray) (p : Nat) : World := { W with heap := W.heap.setIfInBounds g (.stringIter s p) }
theorem itW_at {W : World} {g : Nat} {s : ByteArray} {p q : Nat} (h : W.heap[g]? = some (.stringIter s q)) : (itW W g s p).heap[g]? = some (.stringIter s p) := by
 have := (Array.getElem?_eq_some_iff.1 h).1
 simp [itW, this]
theorem itW_below {W : World} {g : Nat} {s : ByteArray} {p : Nat} {B : Nat} (h : B ≤ g) (hB : B ≤ W.heap.size) : Below B W (itW W g s p) := by
 refine ⟨rfl, rfl, rfl, by simp [itW], fun k hk => ?_⟩
 simp only [itW]
 rw [Array.getElem?_setIfInBounds_ne (by omega)]
theorem next_gen {P : Program} {W : World} {g : Nat} {s : ByteArray} {p : Nat} (ty : TypeId) (hg : W.heap[g]? = some (.stringIter s p)) (h : p < s.size) :
   (Instr.next (.pointer (some ⟨g, 0, none⟩)) true ty).run P W = .ok (.tuple #[.bool true, .int .i64 p, .int .i32 (Utf8.decode s p).1]) (itW W g s (p + (Utf8.decode s p).2)) := by
 simp only [Instr.next, getObj, setObj, Sem.run_bind, Sem.run, hg, Result.andThen, h, if_true]
 simp [goInt, itW]
theorem next_fin {P : Program} {W : World} {g : Nat} {s : ByteArray} {p : Nat} (ty : TypeId) (hg : W.heap[g]? = some (.stringIter s p)) (h : ¬ p < s.size) :
   (Instr.next (.pointer (some ⟨g, 0, none⟩)) true ty).run P W = .ok (.tuple #[.bool false]) W := by
 simp [Instr.next, getObj, Sem.run, hg, h]
def blks : ByteArray := ⟨#[32, 9, 10]⟩
theorem blks_lt (j : Nat) : bt blks j < 128 := by
 match j with
 | 0 => decide
 | 1 => decide
 | 2 => decide
 | j + 3 => show (blks.data.getD (j + 3) 0).toNat < 128; simp [blks]
theorem blks_dec {p : Nat} (h : p < 3) : Utf8.decode blks p = (bt blks p, 1) := by
 match p, h with
 | 0, _ => decide
 | 1, _ => decide
 | 2, _ => decide
theorem itW_pos {W : World} {g : Nat} {s : ByteArray} {p q : Nat} (h : W.heap[g]? = some (.stringIter s q)) : (itW W g s p).iterPos g = p := by
 unfold World.iterPos
 rw [itW_at h]
theorem iter_pos {W : World} {g : Nat} {s : ByteArray} {q : Nat} (h : W.heap[g]? = some (.stringIter s q)) : W.iterPos g = q := by
 unfold World.iterPos
 rw [h]
theorem ib_none {l : List UInt8} {c : UInt8} (h : c ∉ l) : Lib.indexByte l c = -1 := by
 by_cases k : 0 ≤ Lib.indexByte l c
 · exact absurd ((ixb_mem c l).1 k) h
 · have := ixb_ge c l; omega
theorem tail_none (m y : Nat) (h : 128 ≤ y) (hy : y < 256) (Z : World) : Calls Tryz.prog 83 #[.string (blks.extract (m + 1) blks.size), .int .u8 y] Z fun e w' => e = .returned (.int .i64 (-1)) ∧ w' = Z := by
 refine (Tryz.strings_IndexByte _ _ Z).mono ?_
 rintro e w' ⟨rfl, h2⟩
 refine ⟨?_, h2⟩
 rw [ib_none]
 intro hm
 obtain ⟨j, hj⟩ := List.getElem?_of_mem hm
 have hl : ∀ c ∈ (blks.extract (m + 1) blks.size).data.toList, c.toNat < 128 := by
   intro c hc
   have : c ∈ blks.data.toList := by
     rw [Lib.extract_data] at hc
     exact List.mem_of_mem_drop (List.mem_of_mem_take hc)
   revert this
   show c ∈ [32, 9, 10] → _
   simp
   rintro (rfl | rfl | rfl) <;> decide
 have := hl _ hm
 simp at this
 omega
theorem irune_high (r : Int) (h1 : 128 ≤ r) (h2 : r ≤ 2147483647) (w : World) :
   Calls Tryz.prog 154 #[.string blks, .int .i32 r] w fun e w' => e = .returned (.int .i64 (-1)) ∧ Below w.heap.size w w' := by
 have t1 : (0 : Int) ≤ r := by omega
 have t2 : ¬ r < 128 := by omega
 by_cases he : r = 65533
 · subst he
   go_enter Tryz.func154, Tryz.ntmps154
   go_wp2
   go_loopw [5, 6] (fun _ _ wr => ∃ p : Nat, p ≤ 3 ∧ wr.heap[w.heap.size]? = some (.stringIter blks p) ∧ Below w.heap.size w wr) (fun _ _ wr => 3 - wr.iterPos w.heap.size)
   case atStart => exact ⟨0, by omega, World.iter_heap _ _ _, (Below.refl _ _).alloc (Nat.le_refl _) _⟩
   case round =>
     obtain ⟨p, hp, hg, hb⟩ := hrel
     by_cases hlt : p < 3
     · have hnx := fun ty => next_gen (P := Tryz.prog) ty hg (show p < blks.size from hlt)
       rw [blks_dec hlt] at hnx
       have hbp := blks_lt p
       obtain ⟨c, hc⟩ : ∃ c, bt blks p = c := ⟨_, rfl⟩
       rw [hc] at hnx hbp
       have tb : decide ((c : Int) = 65533) = false := by simp; omega
       have tc : ¬ (c : Int) = 65533 := by omega
       have HG := hide hg
       have HB := hide hb
       clear hg hb hc
       go_wp2
       go_roundw
       case rel => exact ⟨p + 1, by omega, itW_at HG.out, HB.out.trans (itW_below (Nat.le_refl _) HB.out.size)⟩
       case measure => rw [itW_pos HG.out, iter_pos HG.out]; omega
     · have hnx := fun ty => next_fin (P := Tryz.prog) ty hg (show ¬ p < blks.size from hlt)
       have HB := hide hb
       clear hg hb
       go_wp2
       go_ret
       exact ⟨rfl, HB.out⟩
 · have t3 : decide (r = 65533) = false := by simpa using he
   have HV := hide (Tryz.utf8_ValidRune r)
   obtain ⟨v, hv⟩ : ∃ v, Lib.validRune r = v := ⟨_, rfl⟩
   rw [hv] at HV
   cases v with
   | false =>
     clear hv
     go_enter Tryz.func154, Tryz.ntmps154
     go_wp2_with fail
     refine (HV.out w).mono ?_
     rintro e w' ⟨rfl, hw⟩
     obtain rfl := hw.symm
     go_wp2
     go_ret
     exact ⟨rfl, Below.refl _ _⟩
   | true =>
     have hva : Utf8.valid r = true := by
       unfold Lib.validRune at hv
       unfold Utf8.valid
       simp at hv ⊢
       omega
     obtain ⟨e1, e2, e3⟩ := encode_facts r hva h1
     have e4 := e3 (by omega)
     rw [bt_eq] at e4
     obtain ⟨E, hE⟩ : ∃ E, Utf8.encode r = E := ⟨_, rfl⟩
     have HE := hide hE
     rw [hE] at e1 e2 e4
     obtain ⟨n, hn⟩ : ∃ n, E.size = n := ⟨_, rfl⟩
     rw [hn] at e1 e2 e4
     obtain ⟨m, rfl⟩ : ∃ m, n = m + 1 := ⟨n - 1, by omega⟩
     rw [Nat.add_sub_cancel] at e4
     have hmm : m = 1 ∨ m = 2 ∨ m = 3 := by omega
     have hlt := blks_lt m
     have hbz : blks.size = 3 := rfl
     obtain ⟨x, hx⟩ : ∃ x, bt blks m = x := ⟨_, rfl⟩
     obtain ⟨y, hy⟩ : ∃ y, bt E m = y := ⟨_, rfl⟩
     rw [hx] at hlt
     rw [hy] at e4
     have tn : ((x : Int) == (y : Int)) = false := by simp; omega
     have tn2 : (x : Int) ≠ (y : Int) := by omega
     have w1 : ((m + 1 : Nat) : Int) - 1 = (m : Int) := by omega
     have hm1 : (m : Int) < ((m + 1 : Nat) : Int) := by omega
     clear hv hva e3
     rcases hmm with rfl | rfl | rfl
     · have HIB := hide (fun Z => tail_none 1 y e4 (by rw [← hy]; exact bt_lt _ _) Z)
       go_enter Tryz.func154, Tryz.ntmps154
       go_wp2_with fail
       refine (HV.out w).mono ?_
       rintro e w' ⟨rfl, hw⟩
       obtain rfl := hw.symm
       go_wp2_with fail
       go_step3
       go_wp2_with fail
       go_loopw [9, 10] (fun v9 v10 wr => v9 = .int .i64 1 ∧ v10 = .int .i64 0 ∧ wr = w) (fun _ _ _ => 0)
       case atStart => exact ⟨rfl, rfl, rfl⟩
       case round =>
         obtain ⟨rfl, rfl, rfl⟩ := hrel
         go_wp2_with fail
         go_step3
         go_upto_region 6 with (fail)
         go_region
         go_wp2_with fail
         go_region_with (go_at_call 83; refine (HIB.out _).mono ?_; rintro e w' ⟨rfl, rfl⟩)
         go_wp2
         all_goals
           rw [Exit.noGoto_ret]
           simp +zetaDelta only [Exit.inBlock, Exit.noGoto_ret, Exit.then]
           go_ret
           exact ⟨rfl, (Below.refl _ _).drew.drew⟩
     · have HIB := hide (fun Z => tail_none 2 y e4 (by rw [← hy]; exact bt_lt _ _) Z)
       go_enter Tryz.func154, Tryz.ntmps154
       go_wp2_with fail
       refine (HV.out w).mono ?_
       rintro e w' ⟨rfl, hw⟩
       obtain rfl := hw.symm
       go_wp2_with fail
       go_step3
       go_wp2_with fail
       go_loopw [9, 10] (fun v9 v10 wr => v9 = .int .i64 2 ∧ v10 = .int .i64 0 ∧ wr = w) (fun _ _ _ => 0)
       case atStart => exact ⟨rfl, rfl, rfl⟩
       case round =>
         obtain ⟨rfl, rfl, rfl⟩ := hrel
         go_wp2_with fail
         go_step3
         go_upto_region 6 with (fail)
         go_region
         go_wp2_with fail
         go_region_with (go_at_call 83; refine (HIB.out _).mono ?_; rintro e w' ⟨rfl, rfl⟩)
         go_wp2
         all_goals
           rw [Exit.noGoto_ret]
           simp +zetaDelta only [Exit.inBlock, Exit.noGoto_ret, Exit.then]
           go_ret
           exact ⟨rfl, (Below.refl _ _).drew.drew⟩
     · go_enter Tryz.func154, Tryz.ntmps154
       go_wp2_with fail
       refine (HV.out w).mono ?_
       rintro e w' ⟨rfl, hw⟩
       obtain rfl := hw.symm
       go_wp2_with fail
       go_step3
       go_wp2_with fail
       go_loopw [9, 10] (fun v9 v10 wr => v9 = .int .i64 3 ∧ v10 = .int .i64 0 ∧ wr = w) (fun _ _ _ => 0)
       case atStart => exact ⟨rfl, rfl, rfl⟩
       case round =>
         obtain ⟨rfl, rfl, rfl⟩ := hrel
         go_wp2
         (try rw [Exit.noGoto_ret])
         go_ret
         exact ⟨rfl, Below.refl _ _⟩
end
section
open Go.RowKit Go.Deep
attribute [local go_sem] bt_eq
theorem decode_cont (s : ByteArray) (p : Nat) (h : p < s.size) (ha : 128 ≤ (s[p]'h).toNat) : ∀ k, k < (Utf8.decode s p).2 → p + k < s.size ∧ 128 ≤ (s.get! (p + k)).toNat := by
 intro k hk
 have hn : ¬ (s[p]'h).toNat < 128 := by omega
 have z : p + 0 < s.size ∧ 128 ≤ (s.get! (p + 0)).toNat := ⟨by omega, by rw [get_at s p h]; exact ha⟩
 have c : ∀ j, (decide (p + j < s.size) && (s.get! (p + j)).toNat / 64 == 2) = true → p + j < s.size ∧ 128 ≤ (s.get! (p + j)).toNat := fun j hj => by
   simp only [Bool.and_eq_true, decide_eq_true_eq, beq_iff_eq] at hj
   exact ⟨hj.1, by omega⟩
 simp only [Utf8.decode, get_at s p h, hn, if_false] at hk
 split at hk
 · rename_i h1
   simp only [Bool.and_eq_true] at h1
   have c1 := c 1 (by simpa using h1.2)
   split at hk
   · match k, hk with
     | 0, _ => exact z
     | 1, _ => exact c1
   · match k, hk with
     | 0, _ => exact z
 · split at hk
   · rename_i h1
     simp only [Bool.and_eq_true] at h1
     have c1 := c 1 (by simpa using h1.1.2)
     have c2 := c 2 (by simpa using h1.2)
     split at hk
     · match k, hk with
       | 0, _ => exact z
       | 1, _ => exact c1
       | 2, _ => exact c2
     · match k, hk with
       | 0, _ => exact z
   · split at hk
     · rename_i h1
       simp only [Bool.and_eq_true] at h1
       have c1 := c 1 (by simpa using h1.1.1.2)
       have c2 := c 2 (by simpa using h1.1.2)
       have c3 := c 3 (by simpa using h1.2)
       split at hk
       · match k, hk with
         | 0, _ => exact z
         | 1, _ => exact c1
         | 2, _ => exact c2
         | 3, _ => exact c3
       · match k, hk with
         | 0, _ => exact z
     · match k, hk with
       | 0, _ => exact z
theorem blks_no {x : UInt8} (h : 128 ≤ x.toNat) : blks.data.toList.contains x = false := by
 rw [Bool.eq_false_iff]
 intro hc
 rw [List.contains_iff_mem] at hc
 have : x ∈ [32, 9, 10] := hc
 simp at this
 rcases this with rfl | rfl | rfl <;> revert h <;> decide
theorem get_at? (s : ByteArray) (p : Nat) (h : p < s.size) : s.data.toList[p]? = some (s.get! p) := by
 rw [Lib.data_getElem? s p h]
 congr 1
 have := get_at s p h
 rw [Nat.add_zero] at this
 exact this.symm
theorem noany_rune {s : ByteArray} {p : Nat} (h : p < s.size) (ha : 128 ≤ (s[p]'h).toNat) (hn : Lib.NoAny s.data.toList blks.data.toList p) : ∀ k, k ≤ (Utf8.decode s p).2 → Lib.NoAny s.data.toList blks.data.toList (p + k)
 | 0, _ => hn
 | k + 1, hk => by
   obtain ⟨h1, h2⟩ := decode_cont s p h ha k (by omega)
   have ih := noany_rune h ha hn k (by omega)
   have := ih.succ (get_at? s (p + k) h1) (blks_no h2)
   exact this
def ixB (l : List UInt8) : Int := Lib.indexAny l blks.data.toList
theorem setZero (w : World) : (zeroValue 202).run Tryz.prog w = .ok (.agg (Array.replicate 256 (.bool false))) w := by kernel_rfl
theorem blks_ascii : ∀ (j : Nat) b, blks.data.toList[j]? = some b → b.toNat < 128 := fun j b h => by
 have := List.mem_of_getElem? h
 have : b ∈ [32, 9, 10] := this
 simp at this
 rcases this with rfl | rfl | rfl <;> decide
theorem iany_any (s : ByteArray) (w : World) (hs : s.size < 4294967281) :
   Calls Tryz.prog 93 #[.string s, .string blks] w fun e w' => e = .returned (.int .i64 (ixB s.data.toList)) ∧ Below w.heap.size w w' := by
 by_cases h8 : 8 < s.size
 · refine (Tryz.strings_IndexAny_long setZero s blks w (by decide) h8 hs (by decide) blks_ascii).mono ?_
   rintro e w' ⟨rfl, rfl⟩
   exact ⟨rfl, ((Below.refl _ _).alloc (Nat.le_refl _) _).alloc (by simp) _⟩
 · have hbz : blks.size = 3 := rfl
   have hbe : blks.toList.isEmpty = false := by rw [Lib.toList_data]; rfl
   have h8z : decide ((8 : Int) < (s.size : Int)) = false := decide_eq_false (by omega)
   have HSU := hide (fun Z => Tryz.strings_shouldUseASCIISet (s.size : Int) Z)
   rw [h8z] at HSU
   have hsz : (s.size : Int) ≤ 8 := by omega
   go_enter Tryz.func93, Tryz.ntmps93
   go_wp2_with fail
   refine (HSU.out w).mono ?_
   rintro e w' ⟨rfl, hw⟩
   obtain rfl := hw.symm
   go_wp2
   go_loopg [9, 10] s.size (fun q _ _ wr => ∃ p : Nat, p + q = s.size ∧ wr.heap[w.heap.size]? = some (.stringIter s p) ∧ Hid (Below w.heap.size w wr) ∧ Hid (Lib.NoAny s.data.toList blks.data.toList p))
   case atStart => exact ⟨0, by omega, World.iter_heap _ _ _, hide ((Below.refl _ _).alloc (Nat.le_refl _) _), hide (Lib.NoAny.zero _ _)⟩
   case round =>
     obtain ⟨p, hpq, hg, HB, HN⟩ := hrel
     by_cases hlt : p < s.size
     case neg =>
       have hnx := fun ty => next_fin (P := Tryz.prog) ty hg hlt
       have HE := hide (show ixB s.data.toList = -1 from Lib.indexAny_none (by
         rw [← Lib.size_eq]
         have := HN.out
         rwa [show p = s.size by omega] at this))
       clear hg
       go_wp2
       go_ret
       rw [HE.out]
       exact ⟨rfl, HB.out⟩
     have hnx := fun ty => next_gen (P := Tryz.prog) ty hg hlt
     have HG := hide hg
     have hgl := (Array.getElem?_eq_some_iff.1 hg).1
     by_cases ha : (s[p]'hlt).toNat < 128
     · have hxl := Lib.data_getElem? s p hlt
       have hdec := decode_ascii s p hlt ha
       rw [hdec] at hnx
       dsimp only at hnx
       obtain ⟨x, hx⟩ : ∃ x : UInt8, s[p]'hlt = x := ⟨_, rfl⟩
       rw [hx] at hxl hnx ha
       have HX := hide hxl
       have hax : (x.toNat : Int) < 128 := by omega
       have hcon := Lib.contains_iff_indexByte blks.data.toList x
       have hback : ((x.toNat : Int)).toNat.toUInt8 = x := by simp
       have HIR := hide (fun Z => Tryz.strings_IndexRune_ascii blks (x.toNat : Int) Z (by omega) hax)
       rw [hback] at HIR
       have HBI := hide (HB.out.trans (itW_below (W := wr) (s := s) (p := p + 1) (Nat.le_refl w.heap.size) HB.out.size))
       have HGI := hide (itW_at (p := p + 1) hg)
       cases hin : blks.data.toList.contains x with
       | false =>
         rw [hin] at hcon
         have hlt2 : ¬ ((0 : Int) ≤ Lib.indexByte blks.data.toList x) := of_decide_eq_false hcon.symm
         obtain ⟨q2, hq2⟩ : ∃ q, Lib.indexByte blks.data.toList x = q := ⟨_, rfl⟩
         rw [hq2] at HIR hlt2
         have HN2 := hide (HN.out.succ HX.out hin)
         clear hcon hin hxl hdec hx hg hq2
         go_wp2_with fail
         refine (HIR.out _).mono ?_
         rintro e w' ⟨rfl, hw⟩
         obtain rfl := hw.symm
         go_wp2
         go_roundg (s.size - (p + 1))
         case measure => omega
         case rel => exact ⟨p + 1, by omega, HGI.out, HBI, HN2⟩
       | true =>
         rw [hin] at hcon
         have hge : (0 : Int) ≤ Lib.indexByte blks.data.toList x := of_decide_eq_true hcon.symm
         obtain ⟨q2, hq2⟩ : ∃ q, Lib.indexByte blks.data.toList x = q := ⟨_, rfl⟩
         rw [hq2] at HIR hge
         have HE := hide (show ixB s.data.toList = (p : Int) from Lib.indexAny_hit HN.out HX.out hin)
         clear hcon hin hxl hdec hx hg hq2
         go_wp2_with fail
         refine (HIR.out _).mono ?_
         rintro e w' ⟨rfl, hw⟩
         obtain rfl := hw.symm
         go_wp2
         go_ret
         rw [HE.out]
         exact ⟨rfl, HBI.out⟩
     · have hdh := decode_high s p hlt (by omega)
       have hdl := decode_le s p
       have HN2 := hide (noany_rune hlt (by omega) HN.out _ (Nat.le_refl _))
       have hcn := decode_cont s p hlt (by omega) ((Utf8.decode s p).2 - 1) (by omega)
       obtain ⟨r, hr⟩ : ∃ r, (Utf8.decode s p).1 = r := ⟨_, rfl⟩
       obtain ⟨d, hd⟩ : ∃ r, (Utf8.decode s p).2 = r := ⟨_, rfl⟩
       rw [hr, hd] at hnx
       rw [hr, hd] at hdh
       rw [hr] at hdl
       rw [hd] at HN2 hcn
       have HIR := hide (fun Z => irune_high (r : Int) (by omega) (by omega) Z)
       have HBI := hide (HB.out.trans (itW_below (W := wr) (s := s) (p := p + d) (Nat.le_refl w.heap.size) HB.out.size))
       have HGI := hide (itW_at (p := p + d) hg)
       have hpd : p + d ≤ s.size := by omega
       have hd1 : 1 ≤ d := hdh.2
       clear hr hd hdh hdl hcn hg ha
       go_wp2_with fail
       refine (HIR.out _).mono ?_
       rintro e w' ⟨rfl, hb'⟩
       have hgl2 := (Array.getElem?_eq_some_iff.1 HGI.out).1
       have HG2 := hide ((hb'.block _ hgl2).trans HGI.out)
       have HB2 := hide (below_up HBI.out hb' HBI.out.size)
       clear hb' hgl2
       go_wp2
       go_roundg (s.size - (p + d))
       case measure => omega
       case rel => exact ⟨p + d, by omega, HG2.out, HB2, HN2⟩
end
section
open Go.RowKit
structure Pt where
 kind : Int
 text : ByteArray
 name : ByteArray
 op : ByteArray
 wA : Option Addr
 wn : Nat
 wc : Nat
 q : Bool
def bsF (l : List UInt8) : ByteArray := ⟨l.toArray⟩
def ptT (l : List UInt8) : Pt := ⟨1, bsF l, ⟨#[]⟩, ⟨#[]⟩, none, 0, 0, false⟩
def isB (c : UInt8) : Bool := c == 32 || c == 9 || c == 10
abbrev Sp := List (List Pt) × List Pt
def flushS (s : Sp) : Sp := if s.2 = [] then s else (s.1 ++ [s.2], [])
def pushS (l : List UInt8) (s : Sp) : Sp := if l = [] then s else (s.1, s.2 ++ [ptT l])
def txS : List UInt8 → List UInt8 → Sp → Sp
 | cur, [], s => pushS cur s
 | cur, c :: rest, s => if isB c then txS [] rest (flushS (pushS cur s)) else txS (cur ++ [c]) rest s
def stS (s : Sp) (p : Pt) : Sp := if p.kind = 1 then txS [] p.text.data.toList s else (s.1, s.2 ++ [p])
def splitS (l : List Pt) : List (List Pt) := (flushS (l.foldl stS ([], []))).1
theorem isB_iff (c : UInt8) : isB c = blks.data.toList.contains c := by
 show (c == 32 || c == 9 || c == 10) = [32, 9, 10].contains c
 rw [Bool.eq_iff_iff]; simp [or_assoc]
theorem txS_no : ∀ (rest cur : List UInt8) (s : Sp), (∀ c ∈ rest, isB c = false) → txS cur rest s = pushS (cur ++ rest) s
 | [], cur, s, h => by rw [txS, List.append_nil]
 | c :: rest, cur, s, h => by
   rw [txS, if_neg (by rw [h c (by simp)]; simp), txS_no rest _ s (fun d hd => h d (by simp [hd]))]
   simp
theorem txS_at : ∀ (a : List UInt8) (cur : List UInt8) (b : UInt8) (rest : List UInt8) (s : Sp), (∀ c ∈ a, isB c = false) → isB b = true → txS cur (a ++ b :: rest) s = txS [] rest (flushS (pushS (cur ++ a) s))
 | [], cur, b, rest, s, h, hb => by rw [List.nil_append, txS, if_pos hb, List.append_nil]
 | c :: a, cur, b, rest, s, h, hb => by
   rw [List.cons_append, txS, if_neg (by rw [h c (by simp)]; simp), txS_at a _ b rest s (fun d hd => h d (by simp [hd])) hb]
   simp
theorem ixB_cases (l : List UInt8) : (ixB l = -1 ∧ ∀ c ∈ l, isB c = false) ∨ ∃ a b rest, l = a ++ b :: rest ∧ ixB l = (a.length : Int) ∧ (∀ c ∈ a, isB c = false) ∧ isB b = true := by
 have key : ∀ (l pre : List UInt8), Lib.NoAny (pre ++ l) blks.data.toList pre.length → (Lib.indexAny (pre ++ l) blks.data.toList = -1 ∧ ∀ c ∈ l, isB c = false) ∨ ∃ a b rest, l = a ++ b :: rest ∧ Lib.indexAny (pre ++ l) blks.data.toList = ((pre.length + a.length : Nat) : Int) ∧ (∀ c ∈ a, isB c = false) ∧ isB b = true := by
   intro l
   induction l with
   | nil =>
     intro pre h
     left
     refine ⟨Lib.indexAny_none (by simpa using h), by simp⟩
   | cons x l ih =>
     intro pre h
     have hx : (pre ++ x :: l)[pre.length]? = some x := by simp
     by_cases hb : isB x = true
     · right
       refine ⟨[], x, l, rfl, ?_, by simp, hb⟩
       rw [Lib.indexAny_hit h hx (by rw [← isB_iff]; exact hb)]
       simp
     · have hb' : isB x = false := by simpa using hb
       have h2 := h.succ hx (by rw [← isB_iff]; exact hb')
       have e : pre ++ x :: l = (pre ++ [x]) ++ l := by simp
       rw [e] at h2 ⊢
       rcases ih (pre ++ [x]) (by simpa using h2) with ⟨h3, h4⟩ | ⟨a, b, rest, h3, h4, h5, h6⟩
       · left
         refine ⟨h3, fun c hc => ?_⟩
         rcases List.mem_cons.1 hc with rfl | hc
         · exact hb'
         · exact h4 c hc
       · right
         refine ⟨x :: a, b, rest, by rw [h3]; rfl, ?_, fun c hc => ?_, h6⟩
         · rw [h4]; simp; omega
         · rcases List.mem_cons.1 hc with rfl | hc
           · exact hb'
           · exact h5 c hc
 rcases key l [] (Lib.NoAny.zero _ _) with ⟨h1, h2⟩ | ⟨a, b, rest, h1, h2, h3, h4⟩
 · exact .inl ⟨h1, h2⟩
 · refine .inr ⟨a, b, rest, h1, ?_, h3, h4⟩
   have : ixB l = Lib.indexAny ([] ++ l) blks.data.toList := rfl
   rw [this, h2]; simp
end
section
open Go.RowKit Go.Deep
def encPt (p : Pt) : List Value := [.int .i64 p.kind, .string p.text, .string p.name, .string p.op, .slice p.wA p.wn p.wc, .bool p.q]
theorem encPt_len (p : Pt) : (encPt p).length = 6 := rfl
theorem encPt_one (p : Pt) : ∀ u ∈ encPt p, u.oneCell' = true := by
 intro u hu
 simp [encPt] at hu
 rcases hu with rfl | rfl | rfl | rfl | rfl | rfl <;> rfl
def pt0 : Pt := ⟨0, ⟨#[]⟩, ⟨#[]⟩, ⟨#[]⟩, none, 0, 0, false⟩
def rowPt : RowT Tryz.prog 49 51 6 := { z := .agg #[.int .i64 0, .string ⟨#[]⟩, .string ⟨#[]⟩, .string ⟨#[]⟩, .slice none 0 0, .bool false], bytes := 88, und := Tryz.underlying49, info := by kernel_rfl, zlen := rfl, pos := by omega, sb := by omega }
structure FR where
 A : Option Addr
 c : Nat
 L : List Pt
def encFR (r : FR) : List Value := [.slice r.A r.L.length r.c]
theorem encFR_len (r : FR) : (encFR r).length = 1 := rfl
theorem encFR_one (r : FR) : ∀ u ∈ encFR r, u.oneCell' = true := by
 intro u hu
 simp [encFR] at hu
 rw [hu]; rfl
def rowFR : RowT Tryz.prog 98 49 1 := { z := .slice none 0 0, bytes := 24, und := Tryz.underlying98, info := by kernel_rfl, zlen := rfl, pos := by omega, sb := by omega }
abbrev tyF : TypeId := 98
abbrev tyN : TypeId := 49
abbrev tyP : TypeId := 51
theorem cellOfF {w : World} {g : Nat} {cs : Array Value} {t : TypeId} (h : w.heap[g]? = some (.cells cs t)) {j : Nat} {v : Value} (hj : cs[j]? = some v) : w.cell? ⟨g, j, none⟩ = some v := by simp [World.cell?, h, hj]
theorem freeOfF {w : World} {g : Nat} {cs : Array Value} {t : TypeId} (h : w.heap[g]? = some (.cells cs t)) (j : Nat) : w.frozen? ⟨g, j, none⟩ = false := by simp [World.frozen?, h]
structure SpI (w0 : World) (po pn : Nat) (out : List FR) (now : List Pt) (vo vn : Value) (w : World) : Prop where
 below : Below w0.heap.size w0 w
 lo : w0.heap.size ≤ po ∧ w0.heap.size ≤ pn ∧ po ≠ pn
 ho : w.heap[po]? = some (.cells #[vo] tyF)
 hn : w.heap[pn]? = some (.cells #[vn] tyN)
 oo : OwnG encFR 1 tyN w w0.heap.size vo out
 on : OwnG encPt 6 tyP w w0.heap.size vn now
 bo : ∀ k, vo.ownBlock = some k → k ≠ po ∧ k ≠ pn
 bn : ∀ k, vn.ownBlock = some k → k ≠ po ∧ k ≠ pn ∧ vo.ownBlock ≠ some k
 rows : ∀ r ∈ out, RG encPt 6 w r.A r.L ∧ r.L.length ≤ r.c ∧ r.L ≠ [] ∧ ∀ a, r.A = some a → a.block < w.heap.size ∧ a.block ≠ po ∧ a.block ≠ pn ∧ vo.ownBlock ≠ some a.block ∧ vn.ownBlock ≠ some a.block
theorem OwnG.of {α : Type} {enc : α → List Value} {n : Nat} {E : TypeId} {w w' : World} {base : Nat} {v : Value} {L : List α} (h : OwnG enc n E w base v L) (hb : ∀ k, v.ownBlock = some k → w'.heap[k]? = w.heap[k]?) : OwnG enc n E w' base v L := ownsRow_of h hb
theorem SpI.step {w0 w w' : World} {po pn : Nat} {out : List FR} {now : List Pt} {vo vn : Value} (h : SpI w0 po pn out now vo vn w) (hb : Below w.heap.size w w') : SpI w0 po pn out now vo vn w' := by
 have h1 := (Array.getElem?_eq_some_iff.1 h.ho).1
 have h2 := (Array.getElem?_eq_some_iff.1 h.hn).1
 refine ⟨h.below.trans (hb.mono h.below.size), h.lo, (hb.block _ h1).trans h.ho, (hb.block _ h2).trans h.hn, h.oo.of fun k hk => hb.block k (h.oo.lt k hk).2, h.on.of fun k hk => hb.block k (h.on.lt k hk).2, h.bo, h.bn, fun r hr => ?_⟩
 obtain ⟨r1, r2, r3, r4⟩ := h.rows r hr
 exact ⟨r1.below hb, r2, r3, fun a e => ⟨Nat.lt_of_lt_of_le (r4 a e).1 hb.size, (r4 a e).2⟩⟩
theorem SpI.below_of {w0 w w' : World} {po pn : Nat} {out : List FR} {now : List Pt} {vo vn : Value} (h : SpI w0 po pn out now vo vn w) (hk : Kp w w' (fun k => w0.heap.size ≤ k)) : Below w0.heap.size w0 w' := hk.below h.below (Nat.le_refl _) fun k hk => hk
theorem SpI.flush0 {w0 w : World} {po pn : Nat} {out : List FR} {vo vn : Value} (h : SpI w0 po pn out [] vo vn w) : SpI w0 po pn out [] vo (.slice none 0 0) (w.setCell ⟨pn, 0, none⟩ (.slice none 0 0)) := by
 have hk : Kp w (w.setCell ⟨pn, 0, none⟩ (.slice none 0 0)) (fun k => k = pn) := objKp
 have hs := objSet (j := 0) (vs := [vn]) h.hn (.slice none 0 0)
 have h1 := (Array.getElem?_eq_some_iff.1 h.ho).1
 refine ⟨h.below_of (hk.mono fun k e => e ▸ h.lo.2.1), h.lo, (hk.block po h1 h.lo.2.2).trans h.ho, by simpa using hs, h.oo.of fun k e => hk.block k (h.oo.lt k e).2 (h.bo k e).2, OwnG.nil _ _, h.bo, fun k e => by simp [Value.ownBlock] at e, fun r hr => ?_⟩
 obtain ⟨r1, r2, r3, r4⟩ := h.rows r hr
 refine ⟨r1.of (by simp) fun a e hl => hk.block _ hl (r4 a e).2.2.1, r2, r3, fun a e => ⟨by simpa using (r4 a e).1, (r4 a e).2.1, (r4 a e).2.2.1, (r4 a e).2.2.2.1, by simp [Value.ownBlock]⟩⟩
theorem SpI.flush1 {w0 w : World} {po pn : Nat} {out : List FR} {now : List Pt} {A0 : Option Addr} {n0 c0 : Nat} {A : Option Addr} {n c : Nat} (h : SpI w0 po pn out now (.slice A0 n0 c0) (.slice A n c) w) (hne : now ≠ []) (hl : out.length ≤ 1000000) :
   ∃ A' c' w4, (Builtin.append_ #[tyF, tyF] tyF #[.slice A0 n0 c0, .slice (some ⟨w.heap.size, 0, none⟩) 1 1]).run Tryz.prog (w.alloc (.cells #[.slice A n c] tyN)) = .ok (.slice A' (n0 + 1) c') w4 ∧
     (w4.cell? ⟨po, 0, none⟩ = some (.slice A0 n0 c0) ∧ w4.frozen? ⟨po, 0, none⟩ = false) ∧
     ((w4.setCell ⟨po, 0, none⟩ (.slice A' (n0 + 1) c')).cell? ⟨pn, 0, none⟩ = some (.slice A n c) ∧ (w4.setCell ⟨po, 0, none⟩ (.slice A' (n0 + 1) c')).frozen? ⟨pn, 0, none⟩ = false) ∧
     SpI w0 po pn (out ++ [⟨A, c, now⟩]) [] (.slice A' (n0 + 1) c') (.slice none 0 0) ((w4.setCell ⟨po, 0, none⟩ (.slice A' (n0 + 1) c')).setCell ⟨pn, 0, none⟩ (.slice none 0 0)) := by
 obtain ⟨A1, c1, e, hc, hr, hb, _⟩ := h.on.slice encPt_len
 injection e with e1 e2 e3
 subst e1 e2 e3
 obtain ⟨A2, c2, e, _, _, _, _⟩ := h.oo.slice encFR_len
 injection e with e1 e2 e3
 have hba := (Below.refl w.heap.size w).alloc (Nat.le_refl _) (.cells #[.slice A now.length c] tyN)
 have h3 := h.step hba
 have hx : RG encFR 1 (w.alloc (.cells #[.slice A now.length c] tyN)) (some ⟨w.heap.size, 0, none⟩) [⟨A, c, now⟩] := rg_new (enc := encFR) (n := 1) w ⟨A, c, now⟩ tyN
 obtain ⟨v4, w4, hrun, ho, hg, hv⟩ := run_appG rowFR encFR_len encFR_one (c := 1) h3.oo hx h3.below.size (by simp; omega)
 obtain ⟨A', c', e9, _, _, _, _⟩ := ho.slice encFR_len
 rw [List.length_append, List.length_singleton, ← e2] at e9
 subst e9
 have hsz : (w.alloc (.cells #[.slice A now.length c] tyN)).heap.size = w.heap.size + 1 := by simp
 have hpo := (Array.getElem?_eq_some_iff.1 h3.ho).1
 have hpn := (Array.getElem?_eq_some_iff.1 h3.hn).1
 have hpo0 := (Array.getElem?_eq_some_iff.1 h.ho).1
 have hpn0 := (Array.getElem?_eq_some_iff.1 h.hn).1
 have hg1 := (hg.block po hpo (fun e => (h3.bo po e.symm).1 rfl)).trans h3.ho
 have hg2 := (hg.block pn hpn (fun e => (h3.bo pn e.symm).2 rfl)).trans h3.hn
 have hs1 : (w4.setCell ⟨po, 0, none⟩ (.slice A' (n0 + 1) c')).heap[po]? = some (.cells #[.slice A' (n0 + 1) c'] tyF) := by simpa using objSet (j := 0) (vs := [.slice A0 n0 c0]) hg1 (.slice A' (n0 + 1) c')
 have hk1 : Kp w4 (w4.setCell ⟨po, 0, none⟩ (.slice A' (n0 + 1) c')) (fun k => k = po) := objKp
 have hs2 := (hk1.block pn (Nat.lt_of_lt_of_le hpn hg.size) (fun e => h.lo.2.2 e.symm)).trans hg2
 obtain ⟨w5, hw5⟩ : ∃ Z, w4.setCell ⟨po, 0, none⟩ (.slice A' (n0 + 1) c') = Z := ⟨_, rfl⟩
 rw [hw5] at hs1 hk1 hs2
 have hs3 : (w5.setCell ⟨pn, 0, none⟩ (.slice none 0 0)).heap[pn]? = some (.cells #[.slice none 0 0] tyN) := by simpa using objSet (j := 0) (vs := [.slice A now.length c]) hs2 (.slice none 0 0)
 have hk2 : Kp w5 (w5.setCell ⟨pn, 0, none⟩ (.slice none 0 0)) (fun k => k = pn) := objKp
 obtain ⟨w6, hw6⟩ : ∃ Z, w5.setCell ⟨pn, 0, none⟩ (.slice none 0 0) = Z := ⟨_, rfl⟩
 rw [hw6] at hs3 hk2
 have hvl : ∀ k, (Value.slice A0 n0 c0).ownBlock = some k → w0.heap.size ≤ k ∧ k < w.heap.size := fun k e => h.oo.lt k e
 have hnl : ∀ k, (Value.slice A now.length c).ownBlock = some k → w0.heap.size ≤ k ∧ k < w.heap.size := fun k e => h.on.lt k e
 have hkk : ∀ k, k < w4.heap.size → k ≠ po → k ≠ pn → w6.heap[k]? = w4.heap[k]? := fun k h1 h2 h3 => (hk2.block k (Nat.lt_of_lt_of_le h1 hk1.size) h3).trans (hk1.block k h1 h2)
 have hk4 : ∀ k, k < w.heap.size → (Value.slice A0 n0 c0).ownBlock ≠ some k → w4.heap[k]? = w.heap[k]? := fun k h1 h2 => (hg.block k (by omega) (fun e => h2 e.symm)).trans (Below.heap_alloc _ _ _ h1)
 have hvn : ∀ k, (Value.slice A' (n0 + 1) c').ownBlock = some k → k < w4.heap.size ∧ w0.heap.size ≤ k ∧ k ≠ po ∧ k ≠ pn ∧ (∀ a : Addr, a.block < w.heap.size → (Value.slice A0 n0 c0).ownBlock ≠ some a.block → k ≠ a.block) := fun k e => by
   refine ⟨(ho.lt k e).2, (ho.lt k e).1, ?_⟩
   rcases hv with q | q
   · rw [q] at e
     exact ⟨(h.bo k e).1, (h.bo k e).2, fun a _ ha e2 => ha (e2 ▸ e)⟩
   · rw [q] at e
     injection e with e
     rw [hsz] at e
     exact ⟨by omega, by omega, fun a ha _ => by omega⟩
 have hs4 := hg.size
 refine ⟨A', c', w4, hrun, ⟨cellOfF hg1 (j := 0) rfl, freeOfF hg1 0⟩, ⟨?_, ?_⟩, ?_⟩
 · rw [hw5]; exact cellOfF hs2 (j := 0) rfl
 · rw [hw5]; exact freeOfF hs2 0
 · rw [hw5, hw6]
   have hbl : Below w0.heap.size w0 w6 := by
     have b1 : Below w0.heap.size w0 w4 := h3.below.trans (Below.of_gb hg h3.below.size (fun k e => (hvl k e).1))
     have b2 := hk1.below b1 (Nat.le_refl _) (fun k e => e ▸ h.lo.1)
     exact hk2.below b2 (Nat.le_refl _) (fun k e => e ▸ h.lo.2.1)
   refine ⟨hbl, h.lo, (hk2.block po (Array.getElem?_eq_some_iff.1 hs1).1 h.lo.2.2).trans hs1, hs3, ho.of fun k e => hkk k (hvn k e).1 (hvn k e).2.2.1 (hvn k e).2.2.2.1, OwnG.nil _ _, fun k e => ⟨(hvn k e).2.2.1, (hvn k e).2.2.2.1⟩, fun k e => by simp [Value.ownBlock] at e, fun r hr2 => ?_⟩
   have hw64 : w4.heap.size ≤ w6.heap.size := Nat.le_trans hk1.size hk2.size
   rcases List.mem_append.1 hr2 with hr2 | hr2
   · obtain ⟨r1, r2, r3, r4⟩ := h.rows r hr2
     refine ⟨r1.of (by omega) fun a e hl => ?_, r2, r3, fun a e => ?_⟩
     · obtain ⟨q1, q2, q3, q4, q5⟩ := r4 a e
       rw [hkk _ (by omega) q2 q3, hk4 _ hl q4]
     · obtain ⟨q1, q2, q3, q4, q5⟩ := r4 a e
       exact ⟨by omega, q2, q3, fun e2 => (hvn _ e2).2.2.2.2 a q1 q4 rfl, by simp [Value.ownBlock]⟩
   · rw [List.mem_singleton.1 hr2]
     have q : ∀ a, A = some a → a.block < w.heap.size ∧ a.block ≠ po ∧ a.block ≠ pn ∧ (Value.slice A0 n0 c0).ownBlock ≠ some a.block := fun a e => by
       have e1 := hb a e
       obtain ⟨q2, q3, q4⟩ := h.bn _ e1
       exact ⟨(hnl _ e1).2, q2, q3, q4⟩
     refine ⟨hr.of (by omega) fun a e hl => ?_, hc, hne, fun a e => ?_⟩
     · obtain ⟨q1, q2, q3, q4⟩ := q a e
       rw [hkk _ (by omega) q2 q3, hk4 _ q1 q4]
     · obtain ⟨q1, q2, q3, q4⟩ := q a e
       exact ⟨by omega, q2, q3, fun e2 => (hvn _ e2).2.2.2.2 a q1 q4 rfl, by simp [Value.ownBlock]⟩
end
section
open Go.RowKit Go.Shelf
theorem bldInfo : (Tryz.prog.info? 115).map (·.size) = some 2 := by kernel_rfl
theorem bldLies : liesAt Tryz.prog Tryz.prog.depth 115 (2 / Tryz.prog.cellsOf 115) 0 115 1 = true := by kernel_rfl
theorem bytInfo : (Tryz.prog.info? 5).map (fun i => (i.zero, i.size, i.bytes)) = some (some (.int .u8 0), 1, 1) := by kernel_rfl
abbrev Bld (B b : Nat) (l : List UInt8) (w : World) : Prop := Lib.IsBuilder 115 5 B b (Lib.byteCells l) w
theorem copyCheck_any (B b : Nat) (bs : List Value) (w : World) (h : Lib.IsBuilder 115 5 B b bs w) :
   Calls Tryz.prog 110 #[.pointer (some ⟨b, 0, none⟩)] w fun e w' => e = .returned (.tuple #[]) ∧ Lib.BuilderAt 115 5 B b (.pointer (some ⟨b, 0, none⟩)) bs w' ∧ Below B w w' := by
 obtain ⟨j, hj, hjs⟩ := Option.map_eq_some_iff.1 bldInfo
 have u35 := run_underlying Tryz.underlying113
 rcases h with h | h
 · have h0 := h.cell0
   have hsh := h.shape
   have hfz := h.frozen0
   have HB := hide h
   clear h
   go_enter Tryz.func110, Tryz.ntmps110
   go_wp2
   rw [Lib.run_to_unsafe w ⟨b, 0, none⟩ Tryz.underlying113 Tryz.underlying213 hj (by rw [hjs]; decide) hsh (Nat.zero_lt_succ 1)]
   simp only [Result.andThen]
   rw [Oper.upon_value]
   go_wp2
   rw [run_callFunc_extern Tryz.func169 (by kernel_rfl) (by kernel_rfl) (by kernel_rfl) (e := Extern.AbiNoEscape.same) (by kernel_rfl)]
   rw [Lib.run_noEscape]
   simp only [Result.andThen]
   rw [Oper.upon_value]
   go_wp2
   rw [Lib.run_from_unsafe w ⟨b, 0, none⟩ Tryz.underlying213 Tryz.underlying113 hj hsh bldLies]
   simp only [Result.andThen]
   rw [Oper.upon_value]
   go_wp2
   go_end0
   exact ⟨rfl, HB.out.used _, (Below.refl B w).setCell (p := ⟨b, 0, none⟩) HB.out.1 _⟩
 · have h0 := h.cell0
   have HB := hide h
   clear h
   go_enter Tryz.func110, Tryz.ntmps110
   go_wp2
   rw [Lib.run_neq_ptr_same _ _ Tryz.underlying113 hj]
   go_wp2
   go_end0
   exact ⟨rfl, HB.out, Below.refl B w⟩
theorem neBld : 115 ≠ 5 := by decide
theorem bldCells (l : List UInt8) (s : ByteArray) : Lib.byteCells l ++ Lib.strCells s = Lib.byteCells (l ++ s.data.toList) := by
 unfold Lib.byteCells Lib.strCells
 first | rfl | (rw [List.map_append]; rfl) | simp
theorem writeStr_any (B b : Nat) (l : List UInt8) (s : ByteArray) (w : World) (h : Bld B b l w) (hlen : l.length + s.size ≤ 140737488355328) (hBw : B ≤ w.heap.size) :
   Calls Tryz.prog 58 #[.pointer (some ⟨b, 0, none⟩), .string s] w fun e w' => e = .returned (.tuple #[.int .i64 s.size, .nilIface]) ∧ Bld B b (l ++ s.data.toList) w' ∧ Below B w w' := by
 obtain ⟨i0, hi, hz0, hz1, hz2⟩ := info_parts bytInfo
 have HC := hide (copyCheck_any B b _ w h)
 have hbl : (Lib.byteCells l).length = l.length := by simp [Lib.byteCells]
 have HBL := hide hbl
 obtain ⟨bs, hbs⟩ : ∃ bs, Lib.byteCells l = bs := ⟨_, rfl⟩
 have HBS := hide hbs
 unfold Bld at h
 rw [hbs] at HC h
 rw [hbs] at hbl
 have HBL2 := hide hbl
 clear h hbs hbl
 go_enter Tryz.func58, Tryz.ntmps58
 go_wp2_with fail
 refine HC.out.mono ?_
 rintro e w1 ⟨rfl, h1, hb1⟩
 obtain ⟨hB, v, hbk, hown, hne⟩ := h1
 have c0 : w1.cell? ⟨b, 0, none⟩ = some (.pointer (some ⟨b, 0, none⟩)) := by rw [Lib.cell_of_heap hbk]; rfl
 have c1 : w1.cell? ⟨b, 1, none⟩ = some v := by rw [Lib.cell_of_heap hbk]; rfl
 go_wp2_with (at_builtin; refine Lib.wpList_append_own_string _ rfl _ _ 29 9 rfl B 5 i0 Tryz.underlying29 Tryz.underlying9 hi hz0 hz1 hz2 _ _ _ rfl hown s rfl ?c3 ?c4 ?c5 ?_)
 case c3 => unfold maxLen; have := HBL2.out; omega
 case c4 => have := HBL2.out; omega
 case c5 => have := hb1.size; omega
 intro v' w2 hown' hgrow _
 have hlt : b < w1.heap.size := (Array.getElem?_eq_some_iff.1 hbk).1
 have hb2 : w2.heap[b]? = some (.cells #[.pointer (some ⟨b, 0, none⟩), v] 115 (0, 0)) := by
   rw [hgrow.block b hlt (fun e => hne e.symm)]
   exact hbk
 have d0 : w2.cell? ⟨b, 0, none⟩ = some (.pointer (some ⟨b, 0, none⟩)) := by rw [Lib.cell_of_heap hb2]; rfl
 have d1 : w2.cell? ⟨b, 1, none⟩ = some v := by rw [Lib.cell_of_heap hb2]; rfl
 have f1 : w2.frozen? ⟨b, 1, none⟩ = false := Lib.frozen_of_heap hb2 1
 obtain ⟨ao, n', cap, rfl⟩ : ∃ ao n' cap, v' = .slice ao n' cap := by
   rcases hown'.2 with ⟨hv, _⟩ | ⟨g, cap, cur, hv, _⟩
   · exact ⟨_, _, _, hv⟩
   · exact ⟨_, _, _, hv⟩
 go_wp2
 go_ret2
 refine ⟨rfl, .inr ?_, ?_⟩
 · rw [← bldCells, HBS.out]
   exact Lib.BuilderAt.put hB hb2 (bs' := bs ++ Lib.strCells s) (by rw [List.length_append, Lib.strCells_length]; exact hown') neBld
 · exact (hb1.grown hgrow (by have := hb1.size; omega) (fun k hk => (hown.lt k hk).1)).setCell (p := ⟨b, 1, none⟩) hB _
theorem bldStr_any (B b : Nat) (l : List UInt8) (w : World) (h : Bld B b l w) (hBw : B ≤ w.heap.size) :
   Calls Tryz.prog 59 #[.pointer (some ⟨b, 0, none⟩)] w fun e w' => e = .returned (.string ⟨l.toArray⟩) ∧ Below B w w' := Tryz.Builder_String_any B b l w h hBw
theorem Bld.fresh (w : World) : Bld w.heap.size w.heap.size [] (w.alloc (.cells #[.pointer none, .slice none 0 0] 115)) :=
 .inl ⟨Nat.le_refl _, .slice none 0 0, heapNew w _, World.ownsRow_nil _ _ _ _, by simp [Value.ownBlock]⟩
end
section
open Go.RowKit Go.Deep
theorem Bld.step {B b : Nat} {l : List UInt8} {w w' : World} (h : Bld B b l w) (hb : Below w.heap.size w w') : Bld B b l w' := by
 have key : ∀ p, Lib.BuilderAt 115 5 B b p (Lib.byteCells l) w → Lib.BuilderAt 115 5 B b p (Lib.byteCells l) w' := by
   rintro p ⟨h1, v, h2, h3, h4⟩
   exact ⟨h1, v, (hb.block b (Array.getElem?_eq_some_iff.1 h2).1).trans h2, ownsRow_of h3 fun k hk => hb.block k (h3.lt k hk).2, h4⟩
 exact h.imp (key _) (key _)
def textS (L : List Pt) : List UInt8 := L.flatMap fun p => p.text.data.toList
theorem textS_succ {L : List Pt} {k : Nat} {x : Pt} (h : L[k]? = some x) : textS (L.take (k + 1)) = textS (L.take k) ++ x.text.data.toList := by
 unfold textS
 rw [List.take_add_one, h, List.flatMap_append]
 simp
theorem textS_le (L : List Pt) (k : Nat) : (textS (L.take k)).length ≤ (textS L).length := by
 have h : textS L = textS (L.take k) ++ textS (L.drop k) := by
   unfold textS
   rw [← List.flatMap_append, List.take_append_drop]
 rw [h, List.length_append]; omega
theorem text_any (A : Option Addr) (c : Nat) (L : List Pt) (w : World) (hA : RG encPt 6 w A L) (hl : L.length ≤ 1000000) (hz : (textS L).length ≤ 1000000) :
   Calls Tryz.prog 25 #[.slice A L.length c] w fun e w' => e = .returned (.string (bsF (textS L))) ∧ Below w.heap.size w w' := by
 have HA := hide hA
 have HZ := hide hz
 obtain ⟨n, hn⟩ : ∃ n, L.length = n := ⟨_, rfl⟩
 have HN := hide hn
 rw [hn] at hl ⊢
 have hni : (n : Int) ≤ 1000000 := by omega
 have HB0 := hide (Bld.fresh w)
 clear hA hz hn
 go_enter Tryz.func25, Tryz.ntmps25
 go_wp2
 go_loopw [5, 8] (fun _ v8 wr => ∃ k : Nat, v8 = .int .i64 k ∧ k ≤ n ∧ Hid (Bld w.heap.size w.heap.size (textS (L.take k)) wr) ∧ Hid (Below w.heap.size w wr)) (fun _ v8 _ => n - (intOf v8).toNat)
 case atStart => exact ⟨0, rfl, by omega, HB0, hide ((Below.refl _ _).alloc (Nat.le_refl _) _)⟩
 case round =>
   obtain ⟨wo, hwo⟩ : ∃ Z, Z = wr := ⟨_, rfl⟩
   subst hwo
   obtain ⟨k, rfl, hk, HBL, HBE⟩ := hrel
   by_cases hlt : k < n
   case neg =>
     obtain rfl : k = n := by omega
     have htk : L.take k = L := List.take_of_length_le (by have := HN.out; omega)
     have hs := HBL.out
     rw [htk] at hs
     have HS := hide (bldStr_any w.heap.size w.heap.size _ wo hs HBE.out.size)
     clear hs htk
     go_wp2_with fail
     refine HS.out.mono ?_
     rintro e wf ⟨rfl, hb⟩
     have HF := hide (HBE.out.trans hb)
     clear hb
     go_wp2
     go_ret
     exact ⟨rfl, HF.out⟩
   obtain ⟨x, hx⟩ : ∃ x, L[k]? = some x := ⟨L[k]'(by have := HN.out; omega), gE _⟩
   obtain ⟨g, o, rfl, hg, hc⟩ := HA.out.below HBE.out k x hx
   have hc0 : wo.cell? ⟨g, o + k * 6, none⟩ = some (.int .i64 x.kind) := by have := hc 0 _ rfl; simpa using this
   have hc1 : wo.cell? ⟨g, o + k * 6 + 1, none⟩ = some (.string x.text) := hc 1 _ rfl
   have hc2 : wo.cell? ⟨g, o + k * 6 + 2, none⟩ = some (.string x.name) := hc 2 _ rfl
   have hc3 : wo.cell? ⟨g, o + k * 6 + 3, none⟩ = some (.string x.op) := hc 3 _ rfl
   have hc4 : wo.cell? ⟨g, o + k * 6 + 4, none⟩ = some (.slice x.wA x.wn x.wc) := hc 4 _ rfl
   have hc5 : wo.cell? ⟨g, o + k * 6 + 5, none⟩ = some (.bool x.q) := hc 5 _ rfl
   have b1 : (k : Int) < (n : Int) := by omega
   have HTS := hide (textS_succ hx)
   have htl := textS_le L (k + 1)
   rw [HTS.out, List.length_append] at htl
   have hbo := (Below.refl wo.heap.size wo).alloc (Nat.le_refl _) (.cells #[.int .i64 x.kind, .string x.text, .string x.name, .string x.op, .slice x.wA x.wn x.wc, .bool x.q] tyP)
   have HWR := hide (writeStr_any w.heap.size w.heap.size (textS (L.take k)) x.text _ (HBL.out.step hbo) (by rw [Lib.size_eq]; have := HZ.out; omega) (by have := HBE.out.size; have := hbo.size; omega))
   have HB1 := hide (HBE.out.trans (hbo.mono HBE.out.size))
   have HBX := hide (heapNew wo (.cells #[.int .i64 x.kind, .string x.text, .string x.name, .string x.op, .slice x.wA x.wn x.wc, .bool x.q] tyP))
   clear hc hx htl hbo
   obtain ⟨kd, tx, nm, op, wA, wn, wk, q⟩ := x
   dsimp only at hc0 hc1 hc2 hc3 hc4 hc5
   have e1 : (wo.alloc (.cells #[.int .i64 kd, .string tx, .string nm, .string op, .slice wA wn wk, .bool q] tyP)).cell? ⟨wo.heap.size, 1, none⟩ = some (.string tx) := cellOfF HBX.out rfl
   go_wp2_with fail
   refine HWR.out.mono ?_
   rintro e wf ⟨rfl, hbl, hbe⟩
   have HBL2 := hide hbl
   have HBE2 := hide (HB1.out.trans hbe)
   clear hbl hbe e1
   go_wp2
   exact ⟨⟨k + 1, by go_num, by omega, hide (by rw [HTS.out]; exact HBL2.out), HBE2⟩, by simp [intOf]; omega⟩
theorem rtext_any (A : Option Addr) (c : Nat) (L : List Pt) (w : World) (hA : RG encPt 6 w A L) (hl : L.length ≤ 1000000) (hz : (textS L).length ≤ 1000000) :
   Calls Tryz.prog 73 #[.slice A L.length c] w fun e w' => e = .returned (.string (bsF (textS L))) ∧ w = w' := by
 have HA := hide hA
 have HZ := hide hz
 obtain ⟨n, hn⟩ : ∃ n, L.length = n := ⟨_, rfl⟩
 have HN := hide hn
 rw [hn] at hl ⊢
 have hni : (n : Int) ≤ 1000000 := by omega
 clear hA hz hn
 go_enter Tryz.func73, Tryz.ntmps73
 go_wp2
 go_loopw [3, 4] (fun v3 v4 wr => ∃ k : Nat, v4 = .int .i64 k ∧ k ≤ n ∧ v3 = .string (bsF (textS (L.take k))) ∧ wr = w) (fun _ v4 _ => n - (intOf v4).toNat)
 case atStart => exact ⟨0, rfl, by omega, rfl, rfl⟩
 case round =>
   obtain ⟨k, rfl, hk, rfl, rfl⟩ := hrel
   by_cases hlt : k < n
   case neg =>
     obtain rfl : k = n := by omega
     have htk : L.take k = L := List.take_of_length_le (by have := HN.out; omega)
     rw [htk]
     go_wp2
     go_ret
     exact ⟨rfl, rfl⟩
   obtain ⟨x, hx⟩ : ∃ x, L[k]? = some x := ⟨L[k]'(by have := HN.out; omega), gE _⟩
   obtain ⟨g, o, rfl, hg, hc⟩ := HA.out k x hx
   have hc1 : wr.cell? ⟨g, o + k * 6 + 1, none⟩ = some (.string x.text) := hc 1 _ rfl
   have b1 : (k : Int) < (n : Int) := by omega
   have HTS := hide (show bsF (textS (L.take (k + 1))) = bsF (textS (L.take k)) ++ x.text by
     rw [textS_succ hx]
     exact ByteArray.ext (Array.ext' (by simp [bsF])))
   have htl := textS_le L (k + 1)
   rw [textS_succ hx, List.length_append] at htl
   have hcat : (bsF (textS (L.take k))).size + x.text.size ≤ 1000000 := by rw [Lib.size_eq, Lib.size_eq x.text]; have := HZ.out; simp only [bsF] at *; omega
   clear hc hx htl
   go_wp2
   exact ⟨⟨k + 1, by go_num, by omega, by rw [HTS.out], trivial⟩, by simp [intOf]; omega⟩
end
end Go.Proofs.YtmcophlmcloooaaGreatDoor
namespace Go.Proofs.YtmcophlmcloooaaGreatDoor.Qt
open Go.RowKit Go.Deep
attribute [local go_sem] bt_eq
theorem own_slice {w : World} {base : Nat} {v : Value} {l : List Nat} (h : OwnB w base v l) : ∃ A c, v = .slice A l.length c := by
 rcases h.2 with ⟨rfl, hn⟩ | ⟨g, cap, cur, rfl, _⟩
 · exact ⟨none, 0, by rw [hn]⟩
 · exact ⟨_, cap, rfl⟩
theorem own_sliceN {w : World} {base n : Nat} {v : Value} {l : List Nat} (h : OwnB w base v l) (hn : l.length = n) : ∃ A c, v = .slice A n c := by
 subst hn; exact own_slice h
def sb (l : List Nat) : ByteArray := strOfNums (l.map fun n : Nat => (n : Int))
theorem sb_size (l : List Nat) : (sb l).size = l.length := by simp [sb, strOfNums_size]
theorem conv_own {W : World} {base : Nat} {v : Value} {l : List Nat} (h : OwnB W base v l) : (convert 29 9 v).run Tryz.prog W = .ok (.string (sb l)) W := by
 rcases h.2 with ⟨rfl, hn⟩ | ⟨g, cap, cur, rfl, _, hh, _⟩
 · have hl : l = [] := List.eq_nil_of_length_eq_zero hn
   subst hl
   exact run_convert_bytes_nil W 29 5 Tryz.underlying29 Tryz.underlying5 0 0 _ Tryz.underlying9
 · refine run_convert_bytes_arg W 29 5 Tryz.underlying29 Tryz.underlying5 g 0 l.length cap (l.map fun n : Nat => (n : Int)) (by simp) (fun i hi => ?_) _ Tryz.underlying9
   rw [Nat.zero_add, World.ownsRow.cellAt h i (by omega)]
   simp [nbytes, List.getD_eq_getElem?_getD, hi]
theorem below_gb {B : Nat} {wr w' : World} {o : Obj} {r : Option Nat} (hg : (wr.alloc o).grownBy w' r) (hr : ∀ k, r = some k → B ≤ k) (hB : B ≤ wr.heap.size) : Below B wr w' :=
 ((Below.refl B wr).alloc hB o).grown hg (by simp; omega) hr
def isSp (c : Nat) : Bool := c == 42 || c == 63 || c == 91 || c == 92
def q1 (c : Nat) : List Nat := if isSp c then [92, c] else [c]
def qb (t : Nat → Nat) (k : Nat) : List Nat := (List.range k).flatMap fun j => q1 (t j)
theorem qb_succ (t : Nat → Nat) (k : Nat) : qb t (k + 1) = qb t k ++ q1 (t k) := by simp [qb, List.range_succ, List.flatMap_append]
theorem qb_len (t : Nat → Nat) (k : Nat) : (qb t k).length ≤ 2 * k := by
 induction k with
 | zero => simp [qb]
 | succ k ih =>
   rw [qb_succ, List.length_append]
   have : (q1 (t k)).length ≤ 2 := by unfold q1; split <;> simp
   omega
theorem rquote_any (s : ByteArray) (w : World) (hs : s.size ≤ 1000) :
   Calls Tryz.prog 122 #[.string s] w fun e w' => e = .returned (.string (sb (qb (bt s) s.size))) ∧ Below w.heap.size w w' := by
 go_enter Tryz.func122, Tryz.ntmps122
 go_wp2
 go_loopw [3, 4] (fun v3 v4 wr => ∃ k : Nat, v4 = .int .i64 k ∧ k ≤ s.size ∧ OwnB wr w.heap.size v3 (qb (bt s) k) ∧ Below w.heap.size w wr) (fun _ v4 _ => s.size - (intOf v4).toNat)
 case atStart => exact ⟨0, rfl, by omega, World.ownsRow_nil _ _ _ _, Below.refl _ _⟩
 case round =>
   obtain ⟨k, rfl, hk, ho, hb⟩ := hrel
   obtain ⟨Ao, co, rfl⟩ := own_slice ho
   have hql := qb_len (bt s) k
   have HO := hide ho
   have HW := hide hb
   have hql2 : (qb (bt s) k).length ≤ 2000 := by omega
   clear ho hb hql
   by_cases hlt : k < s.size
   · have hor : isSp (bt s k) = (bt s k == 42 || bt s k == 63 || bt s k == 91 || bt s k == 92) := rfl
     have HOR := hide hor
     clear hor
     go_upto_region 5 with (fail)
     go_cut [32] from 11 to 32 (fun sc wx => sc = .bool (isSp (bt s k)) ∧ wr = wx)
     case first =>
       go_wp2
       all_goals go_meet
       all_goals refine ⟨?_, rfl⟩
       all_goals
         rw [HOR.out]
         go_light
         try simp only [beq_iff_eq, beq_eq_false_iff_ne] at *
         congr 1
         rw [Bool.eq_iff_iff]
         simp
         omega
     case rest =>
       obtain ⟨rfl, hw⟩ := hcut
       subst hw
       cases hsp : isSp (bt s k) with
       | true =>
         have HQ := hide (show qb (bt s) (k + 1) = (qb (bt s) k ++ [92]) ++ [bt s k] by rw [qb_succ, q1, if_pos hsp]; simp)
         clear hsp
         go_wp2_with (first | (at_builtin; refine wpList_appB wr ?_ (.tmp 33) (.tmp 34) ?_ w.heap.size (.slice Ao (qb (bt s) k).length co) (qb (bt s) k) ?_ HO.out 92 ?_ ?_ ?_ ?_; exact rfl; exact rfl; exact rfl; exact rfl; (first | omega | (simp; omega)); exact HW.out.size; intro v1 w1 ho1 hg1 hat1; obtain ⟨A1, c1, rfl⟩ := own_sliceN (n := (qb (bt s) k).length + 1) ho1 (by simp); have HW1 := hide (HW.out.trans (below_gb hg1 (fun k hk => (HO.out.lt k hk).1) HW.out.size)); have HO1 := hide ho1; clear ho1 hg1 hat1) | (at_builtin; refine wpList_appB w1 ?_ (.tmp 36) (.tmp 40) ?_ w.heap.size (.slice A1 ((qb (bt s) k).length + 1) c1) (qb (bt s) k ++ [92]) ?_ HO1.out (bt s k) ?_ ?_ ?_ ?_; exact rfl; exact rfl; exact rfl; exact rfl; (first | omega | (simp; omega)); exact HW1.out.size; intro v2 w2 ho2 hg2 hat2; obtain ⟨A2, c2, rfl⟩ := own_sliceN (n := (qb (bt s) k).length + 1 + 1) ho2 (by simp); have HW2 := hide (HW1.out.trans (below_gb hg2 (fun k hk => (HO1.out.lt k hk).1) HW1.out.size)); have HO2 := hide ho2; clear ho2 hg2 hat2))
         go_roundw
         case rel => exact ⟨k + 1, by go_num, by omega, by rw [HQ.out]; exact HO2.out, HW2.out⟩
         case measure => simp [intOf]; omega
       | false =>
         have HQ := hide (show qb (bt s) (k + 1) = qb (bt s) k ++ [bt s k] by rw [qb_succ, q1, if_neg (by simp [hsp])])
         clear hsp
         go_wp2_with (at_builtin; refine wpList_appB wr ?_ (.tmp 36) (.tmp 40) ?_ w.heap.size (.slice Ao (qb (bt s) k).length co) (qb (bt s) k) ?_ HO.out (bt s k) ?_ ?_ ?_ ?_; exact rfl; exact rfl; exact rfl; exact rfl; (first | omega | (simp; omega)); exact HW.out.size; intro v2 w2 ho2 hg2 hat2; obtain ⟨A2, c2, rfl⟩ := own_sliceN (n := (qb (bt s) k).length + 1) ho2 (by simp); have HW2 := hide (HW.out.trans (below_gb hg2 (fun k hk => (HO.out.lt k hk).1) HW.out.size)); have HO2 := hide ho2; clear ho2 hg2 hat2)
         go_roundw
         case rel => exact ⟨k + 1, by go_num, by omega, by rw [HQ.out]; exact HO2.out, HW2.out⟩
         case measure => simp [intOf]; omega
   · obtain rfl : k = s.size := by omega
     have hcv := conv_own HO.out
     go_wp2
     go_ret
     exact ⟨rfl, HW.out⟩
theorem quote_any (s : ByteArray) (w : World) (hs : s.size ≤ 1000) :
   Calls Tryz.prog 97 #[.string s] w fun e w' => e = .returned (.string (sb (qb (bt s) s.size))) ∧ Below w.heap.size w w' := by
 have hsb := run_bytes_of_string (P := Tryz.prog) w 9 29 5 s Tryz.underlying9 Tryz.underlying29 Tryz.underlying5
 generalize hC : grownCap w s.size 0 5 = C at hsb
 have hcl : ∀ j, j < s.size → ((w.alloc (.cells (bytesRow s C) 5 ((bytesRow s C).size, (bytesRow s C).size + 1))).drew).cell? ⟨w.heap.size, j, none⟩ = some (.int .u8 (bt s j)) := fun j hj => by
   show (w.alloc (.cells (bytesRow s C) 5 ((bytesRow s C).size, (bytesRow s C).size + 1))).cell? ⟨w.heap.size, j, none⟩ = _
   rw [World.cell?_alloc_mark, bytesRow_at s C j hj, ← bt_eq s j hj]
   rfl
 have HC0 := hide hcl
 have HC1 := hide hC
 clear hcl hC
 go_enter Tryz.func97, Tryz.ntmps97
 go_wp2_with fail
 clear hsb
 have hsz0 : w.heap.size < ((w.alloc (.cells (bytesRow s C) 5 ((bytesRow s C).size, (bytesRow s C).size + 1))).drew).heap.size := by simp
 have hb0 : Below w.heap.size w ((w.alloc (.cells (bytesRow s C) 5 ((bytesRow s C).size, (bytesRow s C).size + 1))).drew) := ((Below.refl _ _).alloc (Nat.le_refl _) _).drew
 generalize (w.alloc (.cells (bytesRow s C) 5 ((bytesRow s C).size, (bytesRow s C).size + 1))).drew = w1 at HC0 hsz0 hb0 ⊢
 have HC := HC0
 have hsz := hsz0
 have HB0 := hide hb0
 clear HC0 hsz0 hb0 HC1
 go_loopw [3, 9] (fun v3 v9 wr => ∃ k : Nat, v9 = .int .i64 k ∧ k ≤ s.size ∧ OwnB wr w1.heap.size v3 (qb (bt s) k) ∧ Below w1.heap.size w1 wr) (fun _ v9 _ => s.size - (intOf v9).toNat)
 case atStart => exact ⟨0, rfl, by omega, World.ownsRow_nil _ _ _ _, Below.refl _ _⟩
 case round =>
   obtain ⟨k, rfl, hk, ho, hb⟩ := hrel
   obtain ⟨Ao, co, rfl⟩ := own_slice ho
   have hql := qb_len (bt s) k
   have HO := hide ho
   have HW := hide hb
   have hql2 : (qb (bt s) k).length ≤ 2000 := by omega
   clear ho hb hql
   by_cases hlt : k < s.size
   · have hor : isSp (bt s k) = (bt s k == 42 || bt s k == 63 || bt s k == 91 || bt s k == 92) := rfl
     have HOR := hide hor
     clear hor
     have hcell := (HW.out.cell (p := ⟨w.heap.size, k, none⟩) hsz).trans (HC.out k hlt)
     go_upto_region 5 with (fail)
     go_cut [26] from 13 to 26 (fun sc wx => sc = .bool (isSp (bt s k)) ∧ wr = wx)
     case first =>
       by_cases e0 : bt s k = 42
       · have q0 : (((bt s k : Nat) : Int) == 42) = true := by simp only [beq_iff_eq]; omega
         have E0 := hide (show (bt s k == 42) = true by simp [e0])
         clear e0
         go_wp2
         go_meet
         refine ⟨?_, rfl⟩
         rw [HOR.out]
         simp [E0.out]
       have q0 : (((bt s k : Nat) : Int) == 42) = false := by simp only [beq_eq_false_iff_ne]; omega
       have E0 := hide (show (bt s k == 42) = false by simp [e0])
       by_cases e1 : bt s k = 63
       · have q1 : (((bt s k : Nat) : Int) == 63) = true := by simp only [beq_iff_eq]; omega
         have E1 := hide (show (bt s k == 63) = true by simp [e1])
         clear e0 e1
         go_wp2
         go_meet
         refine ⟨?_, rfl⟩
         rw [HOR.out]
         simp [E1.out]
       have q1 : (((bt s k : Nat) : Int) == 63) = false := by simp only [beq_eq_false_iff_ne]; omega
       have E1 := hide (show (bt s k == 63) = false by simp [e1])
       by_cases e2 : bt s k = 91
       · have q2 : (((bt s k : Nat) : Int) == 91) = true := by simp only [beq_iff_eq]; omega
         have E2 := hide (show (bt s k == 91) = true by simp [e2])
         clear e0 e1 e2
         go_wp2
         go_meet
         refine ⟨?_, rfl⟩
         rw [HOR.out]
         simp [E2.out]
       have q2 : (((bt s k : Nat) : Int) == 91) = false := by simp only [beq_eq_false_iff_ne]; omega
       have E2 := hide (show (bt s k == 91) = false by simp [e2])
       by_cases e3 : bt s k = 92
       · have q3 : (((bt s k : Nat) : Int) == 92) = true := by simp only [beq_iff_eq]; omega
         have E3 := hide (show (bt s k == 92) = true by simp [e3])
         clear e0 e1 e2 e3
         go_wp2
         go_meet
         refine ⟨?_, rfl⟩
         rw [HOR.out]
         simp [E3.out]
       have q3 : (((bt s k : Nat) : Int) == 92) = false := by simp only [beq_eq_false_iff_ne]; omega
       have E3 := hide (show (bt s k == 92) = false by simp [e3])
       clear e0 e1 e2 e3
       go_wp2
       go_meet
       refine ⟨?_, rfl⟩
       rw [HOR.out]
       simp [E0.out, E1.out, E2.out, E3.out]
     case rest =>
       obtain ⟨rfl, hw⟩ := hcut
       subst hw
       cases hsp : isSp (bt s k) with
       | true =>
         have HQ := hide (show qb (bt s) (k + 1) = (qb (bt s) k ++ [92]) ++ [bt s k] by rw [qb_succ, q1, if_pos hsp]; simp)
         clear hsp
         go_wp2_with (first | (at_builtin; refine wpList_appB wr ?_ (.tmp 27) (.tmp 28) ?_ w1.heap.size (.slice Ao (qb (bt s) k).length co) (qb (bt s) k) ?_ HO.out 92 ?_ ?_ ?_ ?_; exact rfl; exact rfl; exact rfl; exact rfl; (first | omega | (simp; omega)); exact HW.out.size; intro v1 x1 ho1 hg1 hat1; obtain ⟨A1, c1, rfl⟩ := own_sliceN (n := (qb (bt s) k).length + 1) ho1 (by simp); have HW1 := hide (HW.out.trans (below_gb hg1 (fun k hk => (HO.out.lt k hk).1) HW.out.size)); have HO1 := hide ho1; clear ho1 hg1 hat1) | (at_builtin; refine wpList_appB x1 ?_ (.tmp 30) (.tmp 32) ?_ w1.heap.size (.slice A1 ((qb (bt s) k).length + 1) c1) (qb (bt s) k ++ [92]) ?_ HO1.out (bt s k) ?_ ?_ ?_ ?_; exact rfl; exact rfl; exact rfl; exact rfl; (first | omega | (simp; omega)); exact HW1.out.size; intro v2 x2 ho2 hg2 hat2; obtain ⟨A2, c2, rfl⟩ := own_sliceN (n := (qb (bt s) k).length + 1 + 1) ho2 (by simp); have HW2 := hide (HW1.out.trans (below_gb hg2 (fun k hk => (HO1.out.lt k hk).1) HW1.out.size)); have HO2 := hide ho2; clear ho2 hg2 hat2))
         go_roundw
         case rel => exact ⟨k + 1, by go_num, by omega, by rw [HQ.out]; exact HO2.out, HW2.out⟩
         case measure => simp [intOf]; omega
       | false =>
         have HQ := hide (show qb (bt s) (k + 1) = qb (bt s) k ++ [bt s k] by rw [qb_succ, q1, if_neg (by simp [hsp])])
         clear hsp
         go_wp2_with (at_builtin; refine wpList_appB wr ?_ (.tmp 30) (.tmp 32) ?_ w1.heap.size (.slice Ao (qb (bt s) k).length co) (qb (bt s) k) ?_ HO.out (bt s k) ?_ ?_ ?_ ?_; exact rfl; exact rfl; exact rfl; exact rfl; (first | omega | (simp; omega)); exact HW.out.size; intro v2 x2 ho2 hg2 hat2; obtain ⟨A2, c2, rfl⟩ := own_sliceN (n := (qb (bt s) k).length + 1) ho2 (by simp); have HW2 := hide (HW.out.trans (below_gb hg2 (fun k hk => (HO.out.lt k hk).1) HW.out.size)); have HO2 := hide ho2; clear ho2 hg2 hat2)
         go_roundw
         case rel => exact ⟨k + 1, by go_num, by omega, by rw [HQ.out]; exact HO2.out, HW2.out⟩
         case measure => simp [intOf]; omega
   · obtain rfl : k = s.size := by omega
     have hcv := conv_own HO.out
     go_wp2
     go_ret
     exact ⟨rfl, below_up HB0.out HW.out HB0.out.size⟩
end Go.Proofs.YtmcophlmcloooaaGreatDoor.Qt
