/- Walk of package glob's Ends. -/
import Derived.Test.YthlboecjlelemaaGlobWalkB
import Derived.Test.YthlboecjlelemaaQBaseB
namespace Go.Proofs.Ythlboecjlelemaa
open Go.RowKit Go.Deep Qm.Glob
attribute [local go_sem] bt_eq

/-- items lie in a row of cells below block B -/
def ItemsAt (w : World) (A : Option Addr) (B : Nat) (l : List GI) : Prop :=
  ∀ k x, l[k]? = some x → ∃ g, A = some ⟨g, 0, none⟩ ∧ g < B ∧ ∀ j u, x.cells[j]? = some u → w.cell? ⟨g, k * 8 + j, none⟩ = some u
def isStar (l : List GI) (k : Nat) : Bool := (l.getD k giStar).star
def hasC (l : List GI) (k c : Nat) : Bool := (l.getD k giStar).S c
theorem items_cells {w wr : World} {A : Option Addr} {B : Nat} {l : List GI} (h : ItemsAt w A B l) (hb : Below B w wr) {j : Nat} {b0 : Bool} {S : Nat → Bool} {b1 : Bool} {c : Nat} {b2 : Bool} (hx : l[j]? = some ⟨b0, S, b1, c, b2⟩) :
    ∃ g, A = some ⟨g, 0, none⟩ ∧ g < B ∧ wr.cell? ⟨g, j * 8, none⟩ = some (.bool b0) ∧ wr.cell? ⟨g, j * 8 + 1, none⟩ = some (.int .u64 (wd S 0)) ∧ wr.cell? ⟨g, j * 8 + 2, none⟩ = some (.int .u64 (wd S 1)) ∧
      wr.cell? ⟨g, j * 8 + 3, none⟩ = some (.int .u64 (wd S 2)) ∧ wr.cell? ⟨g, j * 8 + 4, none⟩ = some (.int .u64 (wd S 3)) ∧ wr.cell? ⟨g, j * 8 + 5, none⟩ = some (.bool b1) ∧ wr.cell? ⟨g, j * 8 + 6, none⟩ = some (.int .u8 c) ∧ wr.cell? ⟨g, j * 8 + 7, none⟩ = some (.bool b2) := by
  obtain ⟨g, rfl, hg, hc⟩ := h j _ hx
  have e : ∀ q u, (GI.mk b0 S b1 c b2).cells[q]? = some u → wr.cell? ⟨g, j * 8 + q, none⟩ = some u := fun q u hq => (hb.cell (p := ⟨g, j * 8 + q, none⟩) hg).trans (hc q u hq)
  exact ⟨g, rfl, hg, e 0 _ rfl, e 1 _ rfl, e 2 _ rfl, e 3 _ rfl, e 4 _ rfl, e 5 _ rfl, e 6 _ rfl, e 7 _ rfl⟩
theorem gi_newS (w : World) (b0 : Bool) (S : Nat → Bool) (b1 : Bool) (c : Nat) (b2 : Bool) : (w.alloc (.cells #[.bool b0, .int .u64 (wd S 0), .int .u64 (wd S 1), .int .u64 (wd S 2), .int .u64 (wd S 3), .bool b1, .int .u8 c, .bool b2] 69)).rowIs w.heap.size 69 8 (giCell b0 S b1 c b2) :=
  World.rowIs_alloc _ _ _ _ fun i hi => by
    have hi : i < 8 := hi
    have h : i = 0 ∨ i = 1 ∨ i = 2 ∨ i = 3 ∨ i = 4 ∨ i = 5 ∨ i = 6 ∨ i = 7 := by omega
    rcases h with rfl | rfl | rfl | rfl | rfl | rfl | rfl | rfl <;> rfl
theorem has_cell (w : World) (b0 : Bool) (S : Nat → Bool) (b1 : Bool) (c : Nat) (b2 : Bool) (d : Nat) (hd : d < 256) :
    (w.alloc (.cells #[.bool b0, .int .u64 (wd S 0), .int .u64 (wd S 1), .int .u64 (wd S 2), .int .u64 (wd S 3), .bool b1, .int .u8 c, .bool b2] 69)).cell? ⟨w.heap.size, 1 + d / 64, none⟩ = some (.int .u64 (wd S (d / 64))) := by
  rw [(gi_newS w b0 S b1 c b2).cell (by omega), giCell_word' _ _ _ _ _ _ (by omega)]
theorem down_row {w : World} {g t N : Nat} {st : Nat → Bool} {hs : Nat → Nat → Bool} {tt : Nat → Nat} {n i k : Nat} {b : Bool}
    (h : w.rowIs g t N (fun q => .bool (if k + 1 < q then Bv st hs tt n q (i + 1) else Av st hs tt n q i))) (hb : b = Bv st hs tt n (k + 1) (i + 1)) :
    (w.setCell ⟨g, k + 1, none⟩ (.bool b)).rowIs g t N (fun q => .bool (if k < q then Bv st hs tt n q (i + 1) else Av st hs tt n q i)) :=
  (h.set (k + 1) _).congr fun q _ => by
    by_cases e : q = k + 1
    · subst e; rw [if_pos rfl, if_pos (by omega), hb]
    · rw [if_neg e]
      by_cases e2 : k + 1 < q
      · rw [if_pos e2, if_pos (by omega)]
      · rw [if_neg e2, if_neg (by omega)]
theorem bot_row {w : World} {g t N : Nat} {st : Nat → Bool} {hs : Nat → Nat → Bool} {tt : Nat → Nat} {n i : Nat} {b : Bool}
    (h : w.rowIs g t N (fun q => .bool (if 0 < q then Bv st hs tt n q (i + 1) else Av st hs tt n q i))) (hb : b = Bv st hs tt n 0 (i + 1)) :
    (w.setCell ⟨g, 0, none⟩ (.bool b)).rowIs g t N (fun q => .bool (Bv st hs tt n q (i + 1))) :=
  (h.set 0 _).congr fun q _ => by
    by_cases e : q = 0
    · subst e; rw [if_pos rfl, hb]
    · rw [if_neg e, if_pos (by omega)]
theorem isStar_of {l : List GI} {j : Nat} {x : GI} (hx : l[j]? = some x) : isStar l j = x.star := by simp [isStar, List.getD_eq_getElem?_getD, hx]
theorem hasC_of {l : List GI} {j : Nat} {x : GI} (hx : l[j]? = some x) (c : Nat) : hasC l j c = x.S c := by simp [hasC, List.getD_eq_getElem?_getD, hx]
set_option maxRecDepth 100000 in
set_option maxHeartbeats 1000000 in
theorem ends_any (s : ByteArray) (A : Option Addr) (c : Nat) (l : List GI) (w : World) (hs : s.size ≤ 1000) (hl : l.length ≤ 1000) (hat : ItemsAt w A w.heap.size l) :
    Calls Try.prog 44 #[.slice A l.length c, .string s] w fun e w' => ∃ g, e = .returned (.slice (some ⟨g, 0, none⟩) (s.size + 1) (s.size + 1)) ∧ w.heap.size ≤ g ∧
      w'.rowIs g 4 (s.size + 1) (fun i => .bool (E (isStar l) (hasC l) (bt s) l.length i)) ∧ Below w.heap.size w w' := by
  have HAT := hide hat
  clear hat
  have hmk1 := mk38 l.length (by omega)
  have hmk2 := mk38 s.size (by omega)
  have hr1 := (row0 w (l.length + 1) 4 (.bool true) (.bool false)).alloc (.cells (madeCells #[.bool false] (s.size + 1)) 4)
  have hr2 := World.rowIs_made (w.alloc (.cells ((madeCells #[.bool false] (l.length + 1)).setIfInBounds 0 (.bool true)) 4)) (.bool false) (s.size + 1) 4
  rw [show (w.alloc (.cells ((madeCells #[.bool false] (l.length + 1)).setIfInBounds 0 (.bool true)) 4)).heap.size = w.heap.size + 1 from by simp] at hr2
  have hc0 := (World.rowIs_made w (.bool false) (l.length + 1) 4).cell (i := 0) (by omega)
  have hf0 := (World.rowIs_made w (.bool false) (l.length + 1) 4).frozen 0
  have HR1 := hide hr1
  have HR2 := hide hr2
  clear hr1 hr2
  go_enter Try.func44, Try.ntmps44
  go_wp2
  clear hc0 hf0 hmk1 hmk2
  go_loopw [7] (fun v7 wr => ∃ i : Nat, v7 = .int .i64 i ∧ i ≤ s.size ∧ wr.rowIs w.heap.size 4 (l.length + 1) (fun k => .bool (Bv (isStar l) (hasC l) (bt s) l.length k i)) ∧
      wr.rowIs (w.heap.size + 1) 4 (s.size + 1) (fun q => if q < i then .bool (E (isStar l) (hasC l) (bt s) l.length q) else .bool false) ∧ Below w.heap.size w wr) (fun v7 _ => s.size - (intOf v7).toNat)
  case atStart =>
    refine ⟨0, rfl, by omega, HR1.out.congr (fun k _ => ?_), HR2.out.congr (fun q _ => by rw [if_neg (by omega)]), ((Below.refl _ _).alloc (Nat.le_refl _) _).alloc (by simp) _⟩
    by_cases h : k = 0 <;> simp [Bv, h]
  case round =>
    obtain ⟨i, rfl, hi, hr1, hr2, hb⟩ := hrel
    clear HR1 HR2
    have HR1 := hide hr1
    have HR2 := hide hr2
    have HB := hide hb
    clear hr1 hr2 hb
    go_wp2
    go_loopw [26] (fun v26 wx => ∃ j : Nat, v26 = .int .i64 j ∧ j ≤ l.length ∧ wx.rowIs w.heap.size 4 (l.length + 1) (fun k => .bool (if k ≤ j then Av (isStar l) (hasC l) (bt s) l.length k i else Bv (isStar l) (hasC l) (bt s) l.length k i)) ∧
      wx.rowIs (w.heap.size + 1) 4 (s.size + 1) (fun q => if q < i then .bool (E (isStar l) (hasC l) (bt s) l.length q) else .bool false) ∧ Below w.heap.size w wx) (fun v26 _ => l.length - (intOf v26).toNat)
    case atStart =>
      refine ⟨0, rfl, by omega, HR1.out.congr (fun k _ => ?_), HR2.out, HB.out⟩
      by_cases h : k ≤ 0
      · rw [if_pos h, show k = 0 from by omega, Av_zero]
      · rw [if_neg h]
    case round =>
      clear HR1 HR2 HB
      obtain ⟨j, rfl, hj, hr1, hr2, hb⟩ := hrel
      have HR1 := hide hr1
      have HR2 := hide hr2
      have HB := hide hb
      clear hr1 hr2 hb
      by_cases hlt : j < l.length
      · skip
        --{A
        obtain ⟨x, hx⟩ : ∃ x, l[j]? = some x := ⟨l[j], List.getElem?_eq_getElem hlt⟩
        obtain ⟨b0, S, b1, cc, b2⟩ := x
        obtain ⟨g, rfl, hg, c0, c1, c2, c3, c4, c5, c6, c7⟩ := items_cells HAT.out HB.out hx
        have hst := isStar_of hx
        have hcell := HR1.out.cell (i := j) (by omega)
        have hfr := HR1.out.frozen (j + 1)
        have hcell1 := HR1.out.cell (i := j + 1) (by omega)
        rw [if_pos (Nat.le_refl _)] at hcell
        rw [if_neg (by omega)] at hcell1
        have hgl := HB.out.size
        have hl1 := HR1.out.lt
        clear hx
        have HS := hide hst
        clear hst
        cases b0 with
        | false =>
          go_wp2
          go_roundw
          case rel =>
            have hs := HS.out
            go_light
            refine ⟨j + 1, by go_num, by omega, (HR1.out.alloc _).congr (fun k _ => ?_), HR2.out.alloc _, HB.out.alloc (by omega) _⟩
            by_cases h : k = j + 1
            · subst h
              rw [if_neg (by omega), if_pos (Nat.le_refl _), Av_succ _ _ _ hlt, hs]
              simp
            · by_cases h2 : k ≤ j
              · rw [if_pos h2, if_pos (by omega)]
              · rw [if_neg h2, if_neg (by omega)]
          case measure => simp [intOf]; omega
        | true =>
          generalize hav : Av (isStar l) (hasC l) (bt s) l.length j i = av at hcell
          have HAV := hide hav
          clear hav
          cases av with
          | false =>
            go_wp2
            go_roundw
            case rel =>
              have hs := HS.out
              have ha := HAV.out
              go_light
              refine ⟨j + 1, by go_num, by omega, (HR1.out.alloc _).congr (fun k _ => ?_), HR2.out.alloc _, HB.out.alloc (by omega) _⟩
              by_cases h : k = j + 1
              · subst h
                rw [if_neg (by omega), if_pos (Nat.le_refl _), Av_succ _ _ _ hlt, hs, ha]
                simp
              · by_cases h2 : k ≤ j
                · rw [if_pos h2, if_pos (by omega)]
                · rw [if_neg h2, if_neg (by omega)]
            case measure => simp [intOf]; omega
          | true =>
            go_wp2
            go_roundw
            case rel =>
              have hs := HS.out
              have ha := HAV.out
              go_light
              refine ⟨j + 1, by go_num, by omega, (HR1.out.set (j + 1) _).alloc _ |>.congr (fun k _ => ?_), (HR2.out.setOther (by simp) _).alloc _, (HB.out.setCell (by simp) _).alloc (by simp only [World.size_setCell]; omega) _⟩
              by_cases h : k = j + 1
              · subst h
                rw [if_pos rfl, if_pos (Nat.le_refl _), Av_succ _ _ _ hlt, hs, ha]
                simp
              · rw [if_neg h]
                by_cases h2 : k ≤ j
                · rw [if_pos h2, if_pos (by omega)]
                · rw [if_neg h2, if_neg (by omega)]
            case measure => simp [intOf]; omega
        --}A
      · skip
        --{B
        obtain rfl : j = l.length := by omega
        have hcn := HR1.out.cell (i := l.length) (by omega)
        rw [if_pos (Nat.le_refl _), Av_top] at hcn
        have hco := HR2.out.cell (i := i) (by omega)
        have hfo := HR2.out.frozen i
        have hgl := HB.out.size
        have hl2 := HR2.out.lt
        rw [if_neg (by omega)] at hco
        by_cases hie : i = s.size
        · skip
          --{C
          have g1 : ((i : Int) == (s.size : Int)) = true := by simp [hie]
          have HIE := hide hie
          clear hie
          go_wp2
          go_ret
          refine ⟨_, rfl, by omega, (HR2.out.set i _).congr (fun q hq => ?_), HB.out.setCell (by simp) _⟩
          by_cases e : q = i
          · subst e; rw [if_pos rfl]
          · have := HIE.out
            rw [if_neg e, if_pos (by omega)]
          --}C
        · have g1 : ((i : Int) == (s.size : Int)) = false := by simp only [beq_eq_false_iff_ne]; omega
          have hi2 : i < s.size := by omega
          clear hie
          go_wp2
          go_loopw [10] (fun v10 wx => ∃ k : Nat, v10 = .int .i64 k ∧ k ≤ l.length ∧ wx.rowIs w.heap.size 4 (l.length + 1) (fun q => .bool (if k < q then Bv (isStar l) (hasC l) (bt s) l.length q (i + 1) else Av (isStar l) (hasC l) (bt s) l.length q i)) ∧
            wx.rowIs (w.heap.size + 1) 4 (s.size + 1) (fun q => if q < i + 1 then .bool (E (isStar l) (hasC l) (bt s) l.length q) else .bool false) ∧ Below w.heap.size w wx) (fun v10 _ => (intOf v10).toNat)
          case atStart =>
            refine ⟨l.length, rfl, by omega, (HR1.out.setOther (by simp) _).congr (fun q hq => by rw [if_pos (by omega), if_neg (by omega)]), (HR2.out.set i _).congr (fun q _ => ?_), HB.out.setCell (by simp) _⟩
            by_cases e : q = i
            · subst e; rw [if_pos rfl, if_pos (by omega)]
            · rw [if_neg e]
              by_cases e2 : q < i
              · rw [if_pos e2, if_pos (by omega)]
              · rw [if_neg e2, if_neg (by omega)]
          case round =>
            clear HR1 HR2 HB hcn hco hfo hgl hl2
            obtain ⟨k, rfl, hk, hr1, hr2, hb⟩ := hrel
            have HR1 := hide hr1
            have HR2 := hide hr2
            have HB := hide hb
            clear hr1 hr2 hb
            have hgl := HB.out.size
            have hl1 := HR1.out.lt
            have hl2 := HR2.out.lt
            have hfr := HR1.out.frozen
            rcases k with _ | k
            · skip
              --{Z
              have hcell := HR1.out.cell (i := 0) (by omega)
              rw [if_neg (by omega)] at hcell
              generalize hav : Av (isStar l) (hasC l) (bt s) l.length 0 i = av at hcell
              have HAV := hide hav
              clear hav
              cases av with
              | false =>
                go_wp2
                go_roundw
                case rel =>
                  go_light
                  refine ⟨i + 1, by go_num, by omega, bot_row HR1.out ?_, HR2.out.setOther (by simp) _, HB.out.setCell (by simp) _⟩
                  simp only [Bv, if_true]
                  rw [HAV.out]
                  simp
                case measure => simp [intOf]; omega
              | true =>
                by_cases hn : 0 < l.length
                · obtain ⟨x, hx⟩ : ∃ x, l[0]? = some x := ⟨l[0], List.getElem?_eq_getElem hn⟩
                  obtain ⟨b0, S, b1, cc, b2⟩ := x
                  obtain ⟨g, rfl, hg, c0, c1, c2, c3, c4, c5, c6, c7⟩ := items_cells HAT.out HB.out hx
                  have HS := hide (isStar_of hx)
                  clear hx c1 c2 c3 c4 c5 c6 c7
                  rw [Nat.zero_mul] at c0
                  cases b0 with
                  | false =>
                    go_wp2
                    go_roundw
                    case rel =>
                      go_light
                      refine ⟨i + 1, by go_num, by omega, bot_row HR1.out ?_, HR2.out.setOther (by simp) _, HB.out.setCell (by simp) _⟩
                      simp only [Bv, if_true]
                      rw [HAV.out, HS.out]
                      simp
                    case measure => simp [intOf]; omega
                  | true =>
                    go_wp2
                    go_roundw
                    case rel =>
                      go_light
                      refine ⟨i + 1, by go_num, by omega, bot_row HR1.out ?_, HR2.out.setOther (by simp) _, HB.out.setCell (by simp) _⟩
                      simp only [Bv, if_true]
                      rw [HAV.out, HS.out]
                      simp [hn]
                    case measure => simp [intOf]; omega
                · have HN := hide (show decide (0 < l.length) = false by simpa using hn)
                  go_wp2
                  go_roundw
                  case rel =>
                    go_light
                    refine ⟨i + 1, by go_num, by omega, bot_row HR1.out ?_, HR2.out.setOther (by simp) _, HB.out.setCell (by simp) _⟩
                    simp only [Bv, if_true]
                    rw [HAV.out, HN.out]
                    simp
                  case measure => simp [intOf]; omega
              --}Z
            · obtain ⟨x, hx⟩ : ∃ x, l[k]? = some x := ⟨l[k], List.getElem?_eq_getElem (by omega)⟩
              obtain ⟨b0, S, b1, cc, b2⟩ := x
              obtain ⟨g, rfl, hg, c0, c1, c2, c3, c4, c5, c6, c7⟩ := items_cells HAT.out HB.out hx
              have hgw : g < wr.heap.size := by omega
              have HS := hide (isStar_of hx)
              have HC := hide (hasC_of hx (bt s i))
              have hcell := HR1.out.cell (i := k) (by omega)
              rw [if_neg (by omega)] at hcell
              have hcell0 := HR1.out.cell (i := k + 1) (by omega)
              clear hx
              generalize hav : Av (isStar l) (hasC l) (bt s) l.length k i = av at hcell
              have HAV := hide hav
              clear hav
              cases av with
              | false =>
                --{D
                by_cases hk1 : k + 1 < l.length
                · obtain ⟨y, hy⟩ : ∃ y, l[k + 1]? = some y := ⟨l[k + 1], List.getElem?_eq_getElem hk1⟩
                  obtain ⟨d0, dS, d1, dc, d2⟩ := y
                  obtain ⟨g', hgg, hg', e0, e1, e2, e3, e4, e5, e6, e7⟩ := items_cells HAT.out HB.out hy
                  injection hgg with hgg
                  injection hgg with hgg
                  subst hgg
                  have HS2 := hide (isStar_of hy)
                  have hcell2 := HR1.out.cell (i := k + 1) (by omega)
                  rw [if_neg (by omega)] at hcell2
                  clear hy e1 e2 e3 e4 e5 e6 e7
                  cases d0 with
                  | false =>
                    go_wp2
                    go_roundw
                    case rel =>
                      go_light
                      refine ⟨k, rfl, by omega, (down_row HR1.out ?_).alloc _, (HR2.out.setOther (by simp) _).alloc _, (HB.out.setCell (by simp) _).alloc (by simp only [World.size_setCell]; omega) _⟩
                      simp only [Bv, Nat.add_sub_cancel]
                      rw [if_neg (by omega), HAV.out, HS2.out]
                      simp
                    case measure => simp [intOf]
                  | true =>
                    go_wp2
                    go_roundw
                    case rel =>
                      go_light
                      refine ⟨k, rfl, by omega, (down_row HR1.out ?_).alloc _, (HR2.out.setOther (by simp) _).alloc _, (HB.out.setCell (by simp) _).alloc (by simp only [World.size_setCell]; omega) _⟩
                      simp only [Bv, Nat.add_sub_cancel]
                      rw [if_neg (by omega), HAV.out, HS2.out]
                      simp [hk1]
                    case measure => simp [intOf]
                · have HK2 := hide (show (decide (k + 1 < l.length)) = false by simpa using hk1)
                  go_wp2
                  go_roundw
                  case rel =>
                    go_light
                    refine ⟨k, rfl, by omega, (down_row HR1.out ?_).alloc _, (HR2.out.setOther (by simp) _).alloc _, (HB.out.setCell (by simp) _).alloc (by simp only [World.size_setCell]; omega) _⟩
                    simp only [Bv, Nat.add_sub_cancel]
                    rw [if_neg (by omega), HAV.out, HK2.out]
                    simp
                  case measure => simp [intOf]
                --}D
              | true =>
                cases b0 with
                | true =>
                  --{F
                  by_cases hk1 : k + 1 < l.length
                  · obtain ⟨y, hy⟩ : ∃ y, l[k + 1]? = some y := ⟨l[k + 1], List.getElem?_eq_getElem hk1⟩
                    obtain ⟨d0, dS, d1, dc, d2⟩ := y
                    obtain ⟨g', hgg, hg', e0, e1, e2, e3, e4, e5, e6, e7⟩ := items_cells HAT.out HB.out hy
                    injection hgg with hgg
                    injection hgg with hgg
                    subst hgg
                    have HS2 := hide (isStar_of hy)
                    have hcell2 := HR1.out.cell (i := k + 1) (by omega)
                    rw [if_neg (by omega)] at hcell2
                    clear hy e1 e2 e3 e4 e5 e6 e7
                    cases d0 with
                    | false =>
                      go_wp2
                      go_roundw
                      case rel =>
                        go_light
                        refine ⟨k, rfl, by omega, (down_row HR1.out ?_).alloc _, (HR2.out.setOther (by simp) _).alloc _, (HB.out.setCell (by simp) _).alloc (by simp only [World.size_setCell]; omega) _⟩
                        simp only [Bv, Nat.add_sub_cancel]
                        rw [if_neg (by omega), HAV.out, HS.out, HS2.out]
                        simp
                      case measure => simp [intOf]
                    | true =>
                      go_wp2
                      go_roundw
                      case rel =>
                        go_light
                        refine ⟨k, rfl, by omega, (down_row HR1.out ?_).alloc _, (HR2.out.setOther (by simp) _).alloc _, (HB.out.setCell (by simp) _).alloc (by simp only [World.size_setCell]; omega) _⟩
                        simp only [Bv, Nat.add_sub_cancel]
                        rw [if_neg (by omega), HAV.out, HS.out, HS2.out]
                        simp [hk1]
                      case measure => simp [intOf]
                  · have HK2 := hide (show (decide (k + 1 < l.length)) = false by simpa using hk1)
                    go_wp2
                    go_roundw
                    case rel =>
                      go_light
                      refine ⟨k, rfl, by omega, (down_row HR1.out ?_).alloc _, (HR2.out.setOther (by simp) _).alloc _, (HB.out.setCell (by simp) _).alloc (by simp only [World.size_setCell]; omega) _⟩
                      simp only [Bv, Nat.add_sub_cancel]
                      rw [if_neg (by omega), HAV.out, HS.out, HK2.out]
                      simp
                    case measure => simp [intOf]
                  --}F
                | false =>
                  cases hsc : S (bt s i) with
                  | true =>
                    --{G
                    have HSC := hide hsc
                    clear hsc
                    go_wp2_with fail
                    refine (has_any wr.heap.size S (bt s i) _ (bt_lt s i) (has_cell wr false S b1 cc b2 (bt s i) (bt_lt s i))).mono ?_
                    rintro e w1 ⟨rfl, rfl⟩
                    rw [HSC.out]
                    go_wp2
                    go_roundw
                    case rel =>
                      go_light
                      refine ⟨k, rfl, by omega, (down_row HR1.out ?_).alloc _, (HR2.out.setOther (by simp) _).alloc _, (HB.out.setCell (by simp) _).alloc (by simp only [World.size_setCell]; omega) _⟩
                      simp only [Bv, Nat.add_sub_cancel]
                      rw [if_neg (by omega), HAV.out, HS.out, HC.out, HSC.out]
                      simp
                    case measure => simp [intOf]
                    --}G
                  | false =>
                    --{H
                    have HSC := hide hsc
                    clear hsc
                    by_cases hk1 : k + 1 < l.length
                    · obtain ⟨y, hy⟩ : ∃ y, l[k + 1]? = some y := ⟨l[k + 1], List.getElem?_eq_getElem hk1⟩
                      obtain ⟨d0, dS, d1, dc, d2⟩ := y
                      obtain ⟨g', hgg, hg', e0, e1, e2, e3, e4, e5, e6, e7⟩ := items_cells HAT.out HB.out hy
                      injection hgg with hgg
                      injection hgg with hgg
                      subst hgg
                      have HS2 := hide (isStar_of hy)
                      have hcell2 := HR1.out.cell (i := k + 1) (by omega)
                      rw [if_neg (by omega)] at hcell2
                      clear hy e1 e2 e3 e4 e5 e6 e7
                      cases d0 with
                      | false =>
                        go_wp2_with fail
                        refine (has_any wr.heap.size S (bt s i) _ (bt_lt s i) (has_cell wr false S b1 cc b2 (bt s i) (bt_lt s i))).mono ?_
                        rintro e w1 ⟨rfl, rfl⟩
                        rw [HSC.out]
                        go_wp2
                        go_roundw
                        case rel =>
                          go_light
                          refine ⟨k, rfl, by omega, (down_row HR1.out ?_).alloc _, (HR2.out.setOther (by simp) _).alloc _, (HB.out.setCell (by simp) _).alloc (by simp only [World.size_setCell]; omega) _⟩
                          simp only [Bv, Nat.add_sub_cancel]
                          rw [if_neg (by omega), HAV.out, HS.out, HC.out, HSC.out, HS2.out]
                          simp
                        case measure => simp [intOf]
                      | true =>
                        go_wp2_with fail
                        refine (has_any wr.heap.size S (bt s i) _ (bt_lt s i) (has_cell wr false S b1 cc b2 (bt s i) (bt_lt s i))).mono ?_
                        rintro e w1 ⟨rfl, rfl⟩
                        rw [HSC.out]
                        go_wp2
                        go_roundw
                        case rel =>
                          go_light
                          refine ⟨k, rfl, by omega, (down_row HR1.out ?_).alloc _, (HR2.out.setOther (by simp) _).alloc _, (HB.out.setCell (by simp) _).alloc (by simp only [World.size_setCell]; omega) _⟩
                          simp only [Bv, Nat.add_sub_cancel]
                          rw [if_neg (by omega), HAV.out, HS.out, HC.out, HSC.out, HS2.out]
                          simp [hk1]
                        case measure => simp [intOf]
                    · have HK2 := hide (show (decide (k + 1 < l.length)) = false by simpa using hk1)
                      go_wp2_with fail
                      refine (has_any wr.heap.size S (bt s i) _ (bt_lt s i) (has_cell wr false S b1 cc b2 (bt s i) (bt_lt s i))).mono ?_
                      rintro e w1 ⟨rfl, rfl⟩
                      rw [HSC.out]
                      go_wp2
                      go_roundw
                      case rel =>
                        go_light
                        refine ⟨k, rfl, by omega, (down_row HR1.out ?_).alloc _, (HR2.out.setOther (by simp) _).alloc _, (HB.out.setCell (by simp) _).alloc (by simp only [World.size_setCell]; omega) _⟩
                        simp only [Bv, Nat.add_sub_cancel]
                        rw [if_neg (by omega), HAV.out, HS.out, HC.out, HSC.out, HK2.out]
                        simp
                      case measure => simp [intOf]
                    --}H
        --}B
end Go.Proofs.Ythlboecjlelemaa
