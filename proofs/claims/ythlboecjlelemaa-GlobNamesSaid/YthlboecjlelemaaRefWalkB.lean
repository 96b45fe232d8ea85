/- Walk of the reference's set. -/
import Derived.Test.YthlboecjlelemaaRefWalkA
import Derived.Test.YthlboecjlelemaaQBaseB
namespace Go.Proofs.Ythlboecjlelemaa
open Go.RowKit Go.Deep Qm.Glob
attribute [local go_sem] bt_eq

/-- the cells of a reference's item -/
def riCell (kind c : Nat) (nt : Bool) (vlo vhi : Value) (i : Nat) : Value :=
  if i = 0 then .int .i64 kind else if i = 1 then .int .u8 c else if i = 2 then .bool nt else if i = 3 then vlo else vhi
theorem ri_new (w : World) (kind c : Nat) (nt : Bool) (vlo vhi : Value) : (w.alloc (.cells #[.int .i64 kind, .int .u8 c, .bool nt, vlo, vhi] 72)).rowIs w.heap.size 72 5 (riCell kind c nt vlo vhi) :=
  World.rowIs_alloc _ _ _ _ fun i hi => by
    have hi : i < 5 := hi
    have h : i = 0 ∨ i = 1 ∨ i = 2 ∨ i = 3 ∨ i = 4 := by omega
    rcases h with rfl | rfl | rfl | rfl | rfl <;> rfl
theorem ri_cells {w : World} {g t : Nat} {kind c : Nat} {nt : Bool} {vlo vhi : Value} (h : w.rowIs g t 5 (riCell kind c nt vlo vhi)) :
    w.cell? ⟨g, 0, none⟩ = some (.int .i64 kind) ∧ w.cell? ⟨g, 1, none⟩ = some (.int .u8 c) ∧ w.cell? ⟨g, 2, none⟩ = some (.bool nt) ∧ w.cell? ⟨g, 3, none⟩ = some vlo ∧ w.cell? ⟨g, 4, none⟩ = some vhi :=
  ⟨h.cell (i := 0) (by omega), h.cell (i := 1) (by omega), h.cell (i := 2) (by omega), h.cell (i := 3) (by omega), h.cell (i := 4) (by omega)⟩
def ri5 (w : World) (g kind c : Nat) (nt : Bool) (vlo vhi : Value) : World :=
  ((((w.setCell ⟨g, 0, none⟩ (.int .i64 kind)).setCell ⟨g, 1, none⟩ (.int .u8 c)).setCell ⟨g, 2, none⟩ (.bool nt)).setCell ⟨g, 3, none⟩ vlo).setCell ⟨g, 4, none⟩ vhi
theorem ri5_row {w : World} {g t : Nat} {f : Nat → Value} (h : w.rowIs g t 5 f) (kind c : Nat) (nt : Bool) (vlo vhi : Value) : (ri5 w g kind c nt vlo vhi).rowIs g t 5 (riCell kind c nt vlo vhi) :=
  (((((h.set 0 _).set 1 _).set 2 _).set 3 _).set 4 _).congr fun i hi => by
    have h : i = 0 ∨ i = 1 ∨ i = 2 ∨ i = 3 ∨ i = 4 := by omega
    rcases h with rfl | rfl | rfl | rfl | rfl <;> rfl
theorem ri5_gb (w : World) (g kind c : Nat) (nt : Bool) (vlo vhi : Value) : w.grownBy (ri5 w g kind c nt vlo vhi) (some g) :=
  gb_setCell (gb_setCell (gb_setCell (gb_setCell (gb_setCell (World.grownBy.refl w _) _ _) _ _) _ _) _ _) _ _
theorem ret_set {a : Act} {W : World} {g : Nat} {kind c : Nat} {nt : Bool} {vlo vhi : Value} (v5 v6 : Value) (hr : W.rowIs g 72 5 (riCell kind c nt vlo vhi))
    (h4 : a.tmps.getD 4 undef = .pointer (some ⟨g, 0, none⟩)) (h5 : a.tmps.getD 5 undef = v5) (h6 : a.tmps.getD 6 undef = v6) :
    (results Try.f69 a.tmps).run Try.prog W = .ok (.tuple #[.agg #[.int .i64 kind, .int .u8 c, .bool nt, vlo, vhi], v5, v6]) W := by
  obtain ⟨c0, c1, c2, c3, c4⟩ := ri_cells hr
  simp only [results, Try.results69]
  simp only [Array.getD_eq_getD_getElem?] at h4 h5 h6
  simp [go_sem, h4, h5, h6, c0, c1, c2, c3, c4]
/-- the memory of set: the result's block, x's block, the two slices -/
structure SetMem (w : World) (nt : Bool) (lo hi : List Nat) (vlo vhi : Value) (wr : World) : Prop where
  r0 : wr.rowIs w.heap.size 72 5 (riCell 0 0 false (.slice none 0 0) (.slice none 0 0))
  r1 : wr.rowIs (w.heap.size + 1) 72 5 (riCell 3 0 nt vlo vhi)
  olo : OwnB wr w.heap.size vlo lo
  ohi : OwnB wr w.heap.size vhi hi
  ne : ∀ k, vlo.ownBlock = some k → vhi.ownBlock = some k → False
  hb : Below w.heap.size w wr
theorem mem_app {w wr w1 : World} {l m : List Nat} {v u v1 : Value} {a : Nat} {nt : Bool} {vlo vhi : Value} (r0 : wr.rowIs w.heap.size 72 5 (riCell 0 0 false (.slice none 0 0) (.slice none 0 0))) (r1 : wr.rowIs (w.heap.size + 1) 72 5 (riCell 3 0 nt vlo vhi))
    (ov : OwnB wr w.heap.size v l) (ou : OwnB wr w.heap.size u m) (ne : ∀ k, v.ownBlock = some k → u.ownBlock = some k → False) (hb : Below w.heap.size w wr)
    (_ : OwnB w1 w.heap.size v1 (l ++ [a])) (hg : (wr.alloc (.cells #[.int .u8 (a : Nat)] 5)).grownBy w1 v.ownBlock) (hat : v1.ownBlock = v.ownBlock ∨ v1.ownBlock = some (wr.heap.size + 1)) :
    w1.rowIs w.heap.size 72 5 (riCell 0 0 false (.slice none 0 0) (.slice none 0 0)) ∧ w1.rowIs (w.heap.size + 1) 72 5 (riCell 3 0 nt vlo vhi) ∧ OwnB w1 w.heap.size u m ∧ (∀ k, v1.ownBlock = some k → u.ownBlock = some k → False) ∧ Below w.heap.size w w1 := by
  have n0 := own_row_ne ov r0 (by decide)
  have n1 := own_row_ne ov r1 (by decide)
  refine ⟨(r0.alloc _).of_block (hg.block _ (r0.alloc _).lt (Ne.symm n0)), (r1.alloc _).of_block (hg.block _ (r1.alloc _).lt (Ne.symm n1)), ?_, ?_, ?_⟩
  · refine World.ownsRow.kept (ou.alloc _) hg ?_
    rcases h : u.ownBlock with _ | k
    · exact .inl rfl
    · exact .inr (fun e => ne k e.symm h)
  · intro k h1 h2
    rcases hat with e | e
    · exact ne k (e.symm.trans h1) h2
    · have := (ou.lt k h2).2
      rw [e] at h1
      injection h1 with h1
      omega
  · exact (hb.alloc hb.size _).grown hg (by have := hb.size; simp; omega) (fun k hk => (ov.lt k hk).1)
theorem SetMem.app_lo {w wr w1 : World} {lo hi : List Nat} {vlo vhi v1 : Value} {a : Nat} {nt : Bool} (h : SetMem w nt lo hi vlo vhi wr)
    (ho : OwnB w1 w.heap.size v1 (lo ++ [a])) (hg : (wr.alloc (.cells #[.int .u8 (a : Nat)] 5)).grownBy w1 vlo.ownBlock) (hat : v1.ownBlock = vlo.ownBlock ∨ v1.ownBlock = some (wr.heap.size + 1)) :
    w1.cell? ⟨w.heap.size + 1, 3, none⟩ = some vlo ∧ w1.frozen? ⟨w.heap.size + 1, 3, none⟩ = false ∧ w1.cell? ⟨w.heap.size + 1, 4, none⟩ = some vhi ∧ SetMem w nt (lo ++ [a]) hi v1 vhi (w1.setCell ⟨w.heap.size + 1, 3, none⟩ v1) := by
  obtain ⟨r0, r1, ou, ne, hb⟩ := mem_app h.r0 h.r1 h.olo h.ohi h.ne h.hb ho hg hat
  refine ⟨r1.cell (i := 3) (by omega), r1.frozen 3, r1.cell (i := 4) (by omega), r0.setOther (by simp) _, (r1.set 3 _).congr (fun i hi => ?_), own_setCell_row ho r1 (by decide) _ _, own_setCell_row ou r1 (by decide) _ _, ne, hb.setCell (by simp) _⟩
  have h : i = 0 ∨ i = 1 ∨ i = 2 ∨ i = 3 ∨ i = 4 := by omega
  rcases h with rfl | rfl | rfl | rfl | rfl <;> rfl
theorem SetMem.app_hi {w wr w1 : World} {lo hi : List Nat} {vlo vhi v1 : Value} {a : Nat} {nt : Bool} (h : SetMem w nt lo hi vlo vhi wr)
    (ho : OwnB w1 w.heap.size v1 (hi ++ [a])) (hg : (wr.alloc (.cells #[.int .u8 (a : Nat)] 5)).grownBy w1 vhi.ownBlock) (hat : v1.ownBlock = vhi.ownBlock ∨ v1.ownBlock = some (wr.heap.size + 1)) :
    w1.cell? ⟨w.heap.size + 1, 4, none⟩ = some vhi ∧ w1.frozen? ⟨w.heap.size + 1, 4, none⟩ = false ∧ SetMem w nt lo (hi ++ [a]) vlo v1 (w1.setCell ⟨w.heap.size + 1, 4, none⟩ v1) := by
  obtain ⟨r0, r1, ou, ne, hb⟩ := mem_app h.r0 h.r1 h.ohi h.olo (fun k a b => h.ne k b a) h.hb ho hg hat
  refine ⟨r1.cell (i := 4) (by omega), r1.frozen 4, r0.setOther (by simp) _, (r1.set 4 _).congr (fun i hi => ?_), own_setCell_row ou r1 (by decide) _ _, own_setCell_row ho r1 (by decide) _ _, fun k a b => ne k b a, hb.setCell (by simp) _⟩
  have h : i = 0 ∨ i = 1 ∨ i = 2 ∨ i = 3 ∨ i = 4 := by omega
  rcases h with rfl | rfl | rfl | rfl | rfl <;> rfl
theorem own_slice {w : World} {base : Nat} {v : Value} {l : List Nat} (h : OwnB w base v l) : ∃ A c, v = .slice A l.length c := by
  rcases h.2 with ⟨rfl, hn⟩ | ⟨g, cap, cur, rfl, _⟩
  · exact ⟨none, 0, by rw [hn]⟩
  · exact ⟨_, cap, rfl⟩
theorem own_sliceN {w : World} {base n : Nat} {v : Value} {l : List Nat} (h : OwnB w base v l) (hn : l.length = n) : ∃ A c, v = .slice A n c := by
  subst hn; exact own_slice h
theorem slice_set (w : World) (p : Addr) (u : Value) : Value.slice (some ⟨w.heap.size, 0, none⟩) 1 1 = Value.slice (some ⟨(w.setCell p u).heap.size, 0, none⟩) 1 1 := by simp
/-- what the loop of set knows -/
structure SetRel (s : ByteArray) (i : Nat) (w : World) (k : Nat) (first : Bool) (f : Nat) (lo hi : List Nat) (vlo vhi : Value) (wr : World) : Prop where
  hk : k ≤ s.size
  hf : s.size < f + k
  hR : rSet (bt s) s.size f first k lo hi = rSetOf (bt s) s.size i
  hl : lo.length = hi.length
  hlk : lo.length ≤ k
  mem : SetMem w (brNt (bt s) s.size i) lo hi vlo vhi wr

set_option maxRecDepth 100000 in
set_option maxHeartbeats 1000000 in
theorem rset_any (s : ByteArray) (i : Nat) (w : World) (hs : s.size ≤ 1000) (hi : i ≤ s.size) :
    Calls Try.prog 69 #[.string s, .int .i64 i] w fun e w' => ∃ vlo vhi,
      e = .returned (.tuple #[.agg #[.int .i64 (3 : Nat), .int .u8 (0 : Nat), .bool (brNt (bt s) s.size i), vlo, vhi], .int .i64 ((rSetOf (bt s) s.size i).2.2 + 1 : Nat), .bool (decide ((rSetOf (bt s) s.size i).2.2 < s.size))]) ∧
      OwnB w' w.heap.size vlo (rSetOf (bt s) s.size i).1 ∧ OwnB w' w.heap.size vhi (rSetOf (bt s) s.size i).2.1 ∧ Below w.heap.size w w' := by
  have hn0 := (ri_new w 0 0 false (.slice none 0 0) (.slice none 0 0)).alloc (.cells #[.int .i64 (3 : Nat), .int .u8 (0 : Nat), .bool false, .slice none 0 0, .slice none 0 0] 72)
  have hn1 := ri_new (w.alloc (.cells #[.int .i64 (0 : Nat), .int .u8 (0 : Nat), .bool false, .slice none 0 0, .slice none 0 0] 72)) 3 0 false (.slice none 0 0) (.slice none 0 0)
  rw [show (w.alloc (.cells #[.int .i64 (0 : Nat), .int .u8 (0 : Nat), .bool false, .slice none 0 0, .slice none 0 0] 72)).heap.size = w.heap.size + 1 from by simp] at hn1
  have hc2 := hn1.cell (i := 2) (by omega)
  have hf2 := hn1.frozen 2
  have HN0 := hide hn0
  have HN1 := hide hn1
  clear hn0 hn1
  go_enter Try.func69, Try.ntmps69
  go_upto_region 2 with (fail)
  go_cut [23] from 14 to 23 (fun s23 wx => s23 = .bool (brNt (bt s) s.size i) ∧ wx.rowIs w.heap.size 72 5 (riCell 0 0 false (.slice none 0 0) (.slice none 0 0)) ∧ wx.rowIs (w.heap.size + 1) 72 5 (riCell 3 0 false (.slice none 0 0) (.slice none 0 0)) ∧ Below w.heap.size w wx)
  case first =>
    go_wp2
    all_goals go_meet
    all_goals refine ⟨?_, HN0.out, HN1.out, ((Below.refl _ _).alloc (Nat.le_refl _) _).alloc (by simp) _⟩
    all_goals
      go_light
      clear HN0 HN1
      simp only [brNt]
    · rename_i h
      simp only [h, decide_true, Bool.true_and]
      congr 1
      rw [Bool.eq_iff_iff]
      simp only [beq_iff_eq]
      omega
    · have h : (decide (i < s.size)) = false := by simp; omega
      simp [h]
  case rest =>
    obtain ⟨rfl, hr0, hr1, hb⟩ := hcut
    have HR0 := hide hr0
    have HR1 := hide hr1
    have HB := hide hb
    have hc2 := hr1.cell (i := 2) (by omega)
    have hf2 := hr1.frozen 2
    clear hr0 hr1 hb HN0 HN1
    go_upto_if 23 with (fail)
    go_cut [1] from 24 to 26 (fun s1 wx => s1 = .int .i64 (brAt (bt s) s.size i) ∧ wx.rowIs w.heap.size 72 5 (riCell 0 0 false (.slice none 0 0) (.slice none 0 0)) ∧ wx.rowIs (w.heap.size + 1) 72 5 (riCell 3 0 (brNt (bt s) s.size i) (.slice none 0 0) (.slice none 0 0)) ∧ Below w.heap.size w wx)
    case first =>
      go_wp2
      all_goals go_meet
      · rename_i h
        refine ⟨?_, HR0.out.setOther (by simp) _, (HR1.out.set 2 _).congr (fun q hq => ?_), HB.out.setCell (by simp) _⟩
        · go_light
          simp only [brAt, h]
          simp
        · go_light
          rw [h]
          have h : q = 0 ∨ q = 1 ∨ q = 2 ∨ q = 3 ∨ q = 4 := by omega
          rcases h with rfl | rfl | rfl | rfl | rfl <;> rfl
      · rename_i h
        refine ⟨?_, HR0.out, HR1.out.congr (fun q hq => ?_), HB.out⟩
        · go_light
          simp only [brAt, h]
          simp
        · go_light
          rw [h]
    case rest =>
      obtain ⟨rfl, hr0, hr1, hb⟩ := hcut
      have hle : brAt (bt s) s.size i ≤ s.size := by unfold brAt brNt; split <;> simp_all <;> omega
      have HM := hide (show SetMem w (brNt (bt s) s.size i) [] [] (.slice none 0 0) (.slice none 0 0) wc from ⟨hr0, hr1, World.ownsRow_nil _ _ _ _, World.ownsRow_nil _ _ _ _, fun k h => by simp [Value.ownBlock] at h, hb⟩)
      clear hr0 hr1 hb HR0 HR1 HB
      go_wp2
      go_loopw [1, 8] (fun v1 v8 wr => ∃ (k : Nat) (first : Bool) (f : Nat) (lo hi : List Nat) (vlo vhi : Value), v1 = .int .i64 k ∧ v8 = .bool first ∧ SetRel s i w k first f lo hi vlo vhi wr) (fun v1 _ _ => s.size - (intOf v1).toNat)
      case atStart => exact ⟨_, _, s.size + 1 - brAt (bt s) s.size i, [], [], _, _, rfl, rfl, hle, by omega, rfl, rfl, by simp, HM.out⟩
      case round =>
        clear HM
        obtain ⟨k, first, f, lo, hi', vlo, vhi, rfl, rfl, hk, hf, hR, hll, hlk, hm⟩ := hrel
        have HR := hide hR
        have HL := hide hll
        have HM := hide hm
        clear hR hll hm
        obtain ⟨Al, cl, rfl⟩ := own_slice HM.out.olo
        obtain ⟨Ah, ch, rfl⟩ := own_slice HM.out.ohi
        by_cases hc : k < s.size ∧ (first = true ∨ bt s k ≠ 93)
        · obtain ⟨f, rfl⟩ : ∃ f', f = f' + 1 := ⟨f - 1, by omega⟩
          have hlt := hc.1
          have hhl : hi'.length ≤ k := by have := HL.out; omega
          have HC := hide hc
          go_upto_region 6 with (fail)
          go_cut [39] from 27 to 39 (fun s39 wx => s39 = .bool true ∧ wr = wx)
          case first =>
            cases first with
            | true =>
              clear hc
              go_wp2
              go_meet
              exact ⟨rfl, rfl⟩
            | false =>
              have g1 : (((bt s k : Nat) : Int) != 93) = true := by
                have := hc.2
                simp only [Bool.false_eq_true, false_or] at this
                simp only [bne_iff_ne]; omega
              clear hc
              go_wp2
              go_meet
              exact ⟨rfl, rfl⟩
          case rest =>
            clear hc
            obtain ⟨rfl, hw⟩ := hcut
            subst hw
            go_wp2_with fail
            refine (rone_any s k _ hs hlt).mono ?_
            rintro e w1 ⟨rfl, rfl⟩
            obtain ⟨hm1, hm2, hm3⟩ := rOne_le (t := bt s) hlt
            generalize ha : (rOne (bt s) s.size k).1 = a
            generalize hmm : (rOne (bt s) s.size k).2 = m at hm1 hm2 hm3
            have HA := hide ha
            have HMM := hide hmm
            clear ha hmm
            by_cases hrg : k + m + 1 < s.size ∧ bt s (k + m) = 45 ∧ bt s (k + m + 1) ≠ 93
            · skip
              --{A
              obtain ⟨g1, g2, g3⟩ := hrg
              have HG := hide (show k + m + 1 < s.size ∧ bt s (k + m) = 45 ∧ bt s (k + m + 1) ≠ 93 from ⟨g1, g2, g3⟩)
              have g4 : (((bt s (k + m) : Nat) : Int) == 45) = true := by simp only [beq_iff_eq]; omega
              have g5 : (((bt s (k + m + 1) : Nat) : Int) != 93) = true := by simp only [bne_iff_ne]; omega
              clear g2 g3
              go_wp2_with fail
              refine (rone_any s (k + m + 1) _ hs g1).mono ?_
              rintro e w1 ⟨rfl, rfl⟩
              obtain ⟨hn1, hn2, hn3⟩ := rOne_le (t := bt s) g1
              generalize hb2 : (rOne (bt s) s.size (k + m + 1)).1 = b
              generalize hnn : (rOne (bt s) s.size (k + m + 1)).2 = n at hn1 hn2 hn3
              have HB2 := hide hb2
              have HNN := hide hnn
              clear hb2 hnn
              have x3 := (ri_cells HM.out.r1).2.2.2.1
              go_wp2_with (first
                | (at_builtin; refine wpList_appB wr ?_ (.tmp 79) (.tmp 81) ?_ w.heap.size (.slice Al lo.length cl) lo ?_ HM.out.olo a ?_ ?_ ?_ ?_; exact rfl; exact rfl; exact rfl; exact rfl; omega; exact HM.out.hb.size; intro v1 w1 ho1 hg1 hb1; obtain ⟨A1, q1, rfl⟩ := own_sliceN (n := lo.length + 1) ho1 (by simp); obtain ⟨e3, f3, e4, m1⟩ := HM.out.app_lo ho1 hg1 hb1; have HM1 := hide m1; clear m1 ho1 hg1 hb1)
                | (at_builtin; refine wpList_appB (w1.setCell ⟨w.heap.size + 1, 3, none⟩ (.slice A1 (lo.length + 1) q1)) ?_ (.tmp 85) (.tmp 87) ?_ w.heap.size (.slice Ah hi'.length ch) hi' ?_ HM1.out.ohi b ?_ ?_ ?_ ?_; exact rfl; exact rfl; exact rfl; exact slice_set _ _ _; omega; exact HM1.out.hb.size; intro v2 w2 ho2 hg2 hb2; obtain ⟨A2, q2, rfl⟩ := own_sliceN (n := hi'.length + 1) ho2 (by simp); obtain ⟨d3, g3, m2⟩ := HM1.out.app_hi ho2 hg2 hb2; have HM2 := hide m2; clear m2 ho2 hg2 hb2))
              go_roundw
              case rel =>
                refine ⟨k + m + 1 + n, false, f, lo ++ [a], hi' ++ [b], _, _, by go_num, rfl, by omega, by omega, ?_, by simp [HL.out], by simp; omega, HM2.out⟩
                rw [← HR.out, rSet, if_pos HC.out, HA.out, HMM.out, if_pos HG.out, HB2.out, HNN.out]
              case measure => simp [intOf]; omega
              --}A
            · skip
              --{B
              have HG := hide hrg
              go_upto_region 10 with (fail)
              go_cut [66] from 49 to 66 (fun s66 wx => s66 = .bool false ∧ wr = wx)
              case first =>
                by_cases g1 : k + m + 1 < s.size
                · by_cases g2 : bt s (k + m) = 45
                  · have g3 : bt s (k + m + 1) = 93 := by
                      rcases Nat.decEq (bt s (k + m + 1)) 93 with e | e
                      · exact absurd ⟨g1, g2, e⟩ hrg
                      · exact e
                    have g4 : (((bt s (k + m) : Nat) : Int) == 45) = true := by simp only [beq_iff_eq]; omega
                    have g5 : (((bt s (k + m + 1) : Nat) : Int) != 93) = false := by simp only [bne_eq_false_iff_eq]; omega
                    clear hrg g2 g3
                    go_wp2
                    go_meet
                    exact ⟨rfl, rfl⟩
                  · have g4 : (((bt s (k + m) : Nat) : Int) == 45) = false := by simp only [beq_eq_false_iff_ne]; omega
                    clear hrg g2
                    go_wp2
                    go_meet
                    exact ⟨rfl, rfl⟩
                · clear hrg
                  go_wp2
                  go_meet
                  exact ⟨rfl, rfl⟩
              case rest =>
                clear hrg
                obtain ⟨rfl, hw⟩ := hcut
                subst hw
                have x3 := (ri_cells HM.out.r1).2.2.2.1
                go_wp2_with (first
                  | (at_builtin; refine wpList_appB wr ?_ (.tmp 91) (.tmp 93) ?_ w.heap.size (.slice Al lo.length cl) lo ?_ HM.out.olo a ?_ ?_ ?_ ?_; exact rfl; exact rfl; exact rfl; exact rfl; omega; exact HM.out.hb.size; intro v1 w1 ho1 hg1 hb1; obtain ⟨A1, q1, rfl⟩ := own_sliceN (n := lo.length + 1) ho1 (by simp); obtain ⟨e3, f3, e4, m1⟩ := HM.out.app_lo ho1 hg1 hb1; have HM1 := hide m1; clear m1 ho1 hg1 hb1)
                  | (at_builtin; refine wpList_appB (w1.setCell ⟨w.heap.size + 1, 3, none⟩ (.slice A1 (lo.length + 1) q1)) ?_ (.tmp 97) (.tmp 99) ?_ w.heap.size (.slice Ah hi'.length ch) hi' ?_ HM1.out.ohi a ?_ ?_ ?_ ?_; exact rfl; exact rfl; exact rfl; exact slice_set _ _ _; omega; exact HM1.out.hb.size; intro v2 w2 ho2 hg2 hb2; obtain ⟨A2, q2, rfl⟩ := own_sliceN (n := hi'.length + 1) ho2 (by simp); obtain ⟨d3, g3, m2⟩ := HM1.out.app_hi ho2 hg2 hb2; have HM2 := hide m2; clear m2 ho2 hg2 hb2))
                go_roundw
                case rel =>
                  refine ⟨k + m, false, f, lo ++ [a], hi' ++ [a], _, _, by go_num, rfl, by omega, by omega, ?_, by simp [HL.out], by simp; omega, HM2.out⟩
                  rw [← HR.out, rSet, if_pos HC.out, HA.out, HMM.out, if_neg HG.out]
                case measure => simp [intOf]; omega
              --}B
        · skip
          --{C
          have HRe := hide (show rSetOf (bt s) s.size i = (lo, hi', k) by rw [← HR.out]; cases f <;> simp only [rSet]; rw [if_neg hc])
          obtain ⟨c0, c1, c2, c3, c4⟩ := ri_cells HM.out.r0
          obtain ⟨d0, d1, d2, d3, d4⟩ := ri_cells HM.out.r1
          have hf0 := HM.out.r0.frozen
          have hfin := hide (ri5_row HM.out.r0 3 0 (brNt (bt s) s.size i) (.slice Al lo.length cl) (.slice Ah hi'.length ch))
          have hgb := hide (ri5_gb wr w.heap.size 3 0 (brNt (bt s) s.size i) (.slice Al lo.length cl) (.slice Ah hi'.length ch))
          have HOL := hide (World.ownsRow.kept HM.out.olo (ri5_gb wr w.heap.size 3 0 (brNt (bt s) s.size i) (.slice Al lo.length cl) (.slice Ah hi'.length ch)) (.inr (own_row_ne HM.out.olo HM.out.r0 (by decide))))
          have HOH := hide (World.ownsRow.kept HM.out.ohi (ri5_gb wr w.heap.size 3 0 (brNt (bt s) s.size i) (.slice Al lo.length cl) (.slice Ah hi'.length ch)) (.inr (own_row_ne HM.out.ohi HM.out.r0 (by decide))))
          have HBB := hide (HM.out.hb.trans (below_of_gb (ri5_gb wr w.heap.size 3 0 (brNt (bt s) s.size i) (.slice Al lo.length cl) (.slice Ah hi'.length ch)) HM.out.hb.size (Nat.le_refl _)))
          by_cases hlt : k < s.size
          · have hff : first = false := by
              cases first with
              | false => rfl
              | true => exact absurd ⟨hlt, .inl rfl⟩ hc
            subst hff
            have h93 : bt s k = 93 := by
              rcases Nat.decEq (bt s k) 93 with e | e
              · exact absurd ⟨hlt, .inr e⟩ hc
              · exact e
            have g1 : (((bt s k : Nat) : Int) != 93) = false := by simp only [bne_eq_false_iff_eq]; omega
            clear hc h93
            go_wp2
            refine bodyPost_ret (ret_set _ _ hfin.out rfl rfl rfl) rfl ⟨.slice Al lo.length cl, .slice Ah hi'.length ch, ?_, ?_, ?_, ?_⟩
            · rw [HRe.out]; simp [hlt]
            · rw [HRe.out]; exact HOL.out
            · rw [HRe.out]; exact HOH.out
            · exact HBB.out
          · clear hc
            go_wp2
            refine bodyPost_ret (ret_set _ _ hfin.out rfl rfl rfl) rfl ⟨.slice Al lo.length cl, .slice Ah hi'.length ch, ?_, ?_, ?_, ?_⟩
            · rw [HRe.out]; simp [hlt]
            · rw [HRe.out]; exact HOL.out
            · rw [HRe.out]; exact HOH.out
            · exact HBB.out
          --}C
end Go.Proofs.Ythlboecjlelemaa
