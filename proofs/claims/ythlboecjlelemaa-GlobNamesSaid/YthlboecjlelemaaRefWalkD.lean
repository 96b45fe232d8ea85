/- Walk of the reference's fronts. -/
import Derived.Test.YthlboecjlelemaaRefWalkA
import Derived.Test.YthlboecjlelemaaRefWalkE
import Derived.Deep.RegionHeld3
namespace Go.Proofs.Ythlboecjlelemaa
open Go.RowKit Go.Deep Qm.Glob
attribute [local go_sem] bt_eq

set_option maxRecDepth 100000 in
set_option maxHeartbeats 1000000 in
theorem fronts_any (s : ByteArray) (A : Option Addr) (c : Nat) (l : List RI) (w : World) (hs : s.size ≤ 1000) (hl : l.length ≤ 1000) (hat : RItemsAt w A l) :
    Calls Try.prog 47 #[.slice A l.length c, .string s] w fun e w' => ∃ g, e = .returned (.slice (some ⟨g, 0, none⟩) (s.size + 1) (s.size + 1)) ∧ w.heap.size ≤ g ∧
      w'.rowIs g 4 (s.size + 1) (fun i => .bool (E (rStarAt l) (rIsAt l) (bt s) l.length i)) ∧ Below w.heap.size w w' := by
  have HAT := hide hat
  clear hat
  have hmk := mk38 s.size (by omega)
  have hr1 := row0 w (s.size + 1) 4 (.bool true) (.bool false)
  have hc0 := (World.rowIs_made w (.bool false) (s.size + 1) 4).cell (i := 0) (by omega)
  have hf0 := (World.rowIs_made w (.bool false) (s.size + 1) 4).frozen 0
  have HR1 := hide hr1
  clear hr1
  go_enter Try.func47, Try.ntmps47
  go_wp2
  clear hc0 hf0
  go_loopw [5, 6] (fun v5 v6 wr => ∃ i g : Nat, v6 = .int .i64 i ∧ v5 = .slice (some ⟨g, 0, none⟩) (s.size + 1) (s.size + 1) ∧ i ≤ l.length ∧ w.heap.size ≤ g ∧ wr.rowIs g 4 (s.size + 1) (fun q => .bool (E (rStarAt l) (rIsAt l) (bt s) i q)) ∧
      Below w.heap.size w wr) (fun _ v6 _ => l.length - (intOf v6).toNat)
  case atStart =>
    refine ⟨0, w.heap.size, rfl, rfl, by omega, Nat.le_refl _, HR1.out.congr (fun q _ => ?_), (Below.refl _ _).alloc (Nat.le_refl _) _⟩
    cases q with
    | zero => rw [if_pos rfl, E00]
    | succ q => rw [if_neg (by omega), E0s]
  case round =>
    obtain ⟨i, g, rfl, rfl, hi, hg, hr, hb⟩ := hrel
    clear HR1
    have HR := hide hr
    have HB := hide hb
    clear hr hb
    by_cases hlt : i < l.length
    · obtain ⟨x, hx⟩ : ∃ x, l[i]? = some x := ⟨l[i], List.getElem?_eq_getElem hlt⟩
      have HX := hide hx
      clear hx
      have HRn := hide (World.rowIs_made wr (.bool false) (s.size + 1) 4)
      have hgw := HR.out.lt
      obtain ⟨wo, rfl⟩ : ∃ wo : World, wo = wr := ⟨_, rfl⟩
      go_wp2
      go_loopw [8] (fun v8 wx => ∃ k : Nat, v8 = .int .i64 k ∧ k ≤ s.size + 1 ∧ wx.rowIs g 4 (s.size + 1) (fun q => .bool (E (rStarAt l) (rIsAt l) (bt s) i q)) ∧
        wx.rowIs wo.heap.size 4 (s.size + 1) (fun q => if q < k then .bool (E (rStarAt l) (rIsAt l) (bt s) (i + 1) q) else .bool false) ∧ Below w.heap.size w wx) (fun v8 _ => s.size + 1 - (intOf v8).toNat)
      case atStart => exact ⟨0, rfl, by omega, HR.out.alloc _, HRn.out.congr (fun q _ => by rw [if_neg (by omega)]), HB.out.alloc HB.out.size _⟩
      case round =>
        have hgn := HB.out.size
        clear HR HRn
        obtain ⟨k, rfl, hk, hr1, hr2, hb⟩ := hrel
        clear HB
        have HR1 := hide hr1
        have HR2 := hide hr2
        have HB := hide hb
        clear hr1 hr2 hb
        by_cases hkm : k ≤ s.size
        · obtain ⟨ga, vlo, vhi, rfl, hga, c0, c1, c2, c3, c4, hlo, hhi, hle, hlb⟩ := ritem_cells HAT.out HB.out HX.out
          have hfr := HR2.out.frozen k
          have hck := HR2.out.cell (i := k) (by omega)
          rw [if_neg (by omega)] at hck
          have HL := hide hle
          have HLO := hide hlo
          have HHI := hide hhi
          have hsz := HB.out.size
          have hga2 : ga < wr.heap.size := by omega
          have hl1 := HR1.out.lt
          have hl2 := HR2.out.lt
          clear hle hlo hhi
          by_cases hkd : x.kind = 1
          · have g1 : ((x.kind : Int) == 1) = true := by simp [hkd]
            have HST := hide (show rStarAt l i = true by rw [rStarAt_of HX.out, hkd]; rfl)
            clear hkd c1 c2 c3 c4
            have hcan := HR1.out.cell (i := k) (by omega)
            generalize hb : E (rStarAt l) (rIsAt l) (bt s) i k = b at hcan
            have HBV := hide hb
            clear hb
            cases b with
            | true =>
              --{A
              go_wp2
              go_roundw
              case rel =>
                go_light
                refine ⟨k + 1, by go_num, by omega, HR1.out.setOther (by simp; omega) _, (HR2.out.set k _).congr (fun q _ => ?_), HB.out.setCell (by simp; omega) _⟩
                by_cases e : q = k
                · subst e
                  rw [if_pos rfl, if_pos (by omega)]
                  cases q with
                  | zero => rw [Es0, HST.out, HBV.out]; rfl
                  | succ q => rw [Ess, HST.out, HBV.out]; simp
                · rw [if_neg e]
                  by_cases e2 : q < k
                  · rw [if_pos e2, if_pos (by omega)]
                  · rw [if_neg e2, if_neg (by omega)]
              case measure => simp [intOf] <;> omega
              --}A
            | false =>
              rcases k with _ | k
              · skip
                --{B
                go_wp2
                go_roundw
                case rel =>
                  go_light
                  refine ⟨0 + 1, by go_num, by omega, HR1.out.setOther (by simp; omega) _, (HR2.out.set 0 _).congr (fun q _ => ?_), HB.out.setCell (by simp; omega) _⟩
                  by_cases e : q = 0
                  · subst e
                    rw [if_pos rfl, if_pos (by omega), Es0, HST.out, HBV.out]; rfl
                  · rw [if_neg e, if_neg (by omega), if_neg (by omega)]
                case measure => simp [intOf] <;> omega
                --}B
              · skip
                --{C
                have hcp := HR2.out.cell (i := k) (by omega)
                rw [if_pos (by omega)] at hcp
                go_wp2
                go_roundw
                case rel =>
                  go_light
                  refine ⟨k + 1 + 1, by go_num, by omega, HR1.out.setOther (by simp; omega) _, (HR2.out.set (k + 1) _).congr (fun q _ => ?_), HB.out.setCell (by simp; omega) _⟩
                  by_cases e : q = k + 1
                  · subst e
                    rw [if_pos rfl, if_pos (by omega), Ess, HST.out, HBV.out]; simp
                  · rw [if_neg e]
                    by_cases e2 : q < k + 1
                    · rw [if_pos e2, if_pos (by omega)]
                    · rw [if_neg e2, if_neg (by omega)]
                case measure => simp [intOf] <;> omega
                --}C
          · have g1 : ((x.kind : Int) == 1) = false := by simp only [beq_eq_false_iff_ne]; omega
            have HST := hide (show rStarAt l i = false by rw [rStarAt_of HX.out]; simpa using hkd)
            clear hkd
            rcases k with _ | k
            · skip
              --{D
              go_wp2
              go_region
              go_wp2
              go_roundw
              case rel =>
                go_light
                refine ⟨0 + 1, by go_num, by omega, (HR1.out.setOther (a := ⟨wo.heap.size, 0, none⟩) (by simp; omega) _).drew, ((HR2.out.set 0 _).congr (fun q _ => ?_)).drew, (HB.out.setCell (p := ⟨wo.heap.size, 0, none⟩) (by simp; omega) _).drew⟩
                by_cases e : q = 0
                · subst e
                  rw [if_pos rfl, if_pos (by omega), Es0, HST.out]; rfl
                · rw [if_neg e, if_neg (by omega), if_neg (by omega)]
              case measure => simp [intOf] <;> omega
              --}D
            · have hcan := HR1.out.cell (i := k) (by omega)
              generalize hb : E (rStarAt l) (rIsAt l) (bt s) i k = b at hcan
              have HBV := hide hb
              clear hb
              cases b with
              | false =>
                --{F
                go_wp2
                go_region
                go_wp2
                go_roundw
                case rel =>
                  go_light
                  refine ⟨k + 1 + 1, by go_num, by omega, (HR1.out.setOther (a := ⟨wo.heap.size, k + 1, none⟩) (by simp; omega) _).drew, ((HR2.out.set (k + 1) _).congr (fun q _ => ?_)).drew, (HB.out.setCell (p := ⟨wo.heap.size, k + 1, none⟩) (by simp; omega) _).drew⟩
                  by_cases e : q = k + 1
                  · subst e
                    rw [if_pos rfl, if_pos (by omega), Ess, HST.out, HBV.out]; rfl
                  · rw [if_neg e]
                    by_cases e2 : q < k + 1
                    · rw [if_pos e2, if_pos (by omega)]
                    · rw [if_neg e2, if_neg (by omega)]
                case measure => simp [intOf] <;> omega
                --}F
              | true =>
                --{G
                have hks : k < s.size := by omega
                have HE := hide (rIsAt_of HX.out (bt s k))
                have b0 : (k : Int) < (s.size : Int) := by omega
                have b1 : (k : Int) + 1 < (s.size : Int) + 1 := by omega
                have b2 : (k : Int) < (s.size : Int) + 1 := by omega
                have b3 : (i : Int) < (l.length : Int) := by omega
                have b4 : (0 : Int) ≤ (k : Int) + 1 := by omega
                have b5 : (0 : Int) < (k : Int) + 1 := by omega
                have b7 : IntKind.i64.wrap (k : Int) = (k : Int) := IntWalk.i64_in _ (by omega)
                have b6 : IntKind.i64.wrap ((k : Int) + 1 - 1) = (k : Int) := by rw [IntWalk.i64_in _ (by omega)]; omega
                go_wp2_with fail
                rw [show ((k + 1 : Nat) : Int) = (k : Int) + 1 from rfl]
                go_region_held3 (fun w' => w'.cell? ⟨g, k, none⟩ = some (.bool true) ∧ w'.cell? ⟨ga, i * 5, none⟩ = some (.int .i64 x.kind) ∧ w'.cell? ⟨ga, i * 5 + 1, none⟩ = some (.int .u8 x.c) ∧ w'.cell? ⟨ga, i * 5 + 2, none⟩ = some (.bool x.nt) ∧ w'.cell? ⟨ga, i * 5 + 3, none⟩ = some vlo ∧ w'.cell? ⟨ga, i * 5 + 4, none⟩ = some vhi)
                  (first | exact ⟨hcan, c0, c1, c2, c3, c4⟩ | exact ⟨x0, y0, y1, y2, y3, y4⟩ | exact ⟨(World.cell?_setCell_other _ _ _ _ (by intro e; injection e; omega)).trans x0, (World.cell?_setCell_other _ _ _ _ (by intro e; injection e; omega)).trans y0, (World.cell?_setCell_other _ _ _ _ (by intro e; injection e; omega)).trans y1, (World.cell?_setCell_other _ _ _ _ (by intro e; injection e; omega)).trans y2, (World.cell?_setCell_other _ _ _ _ (by intro e; injection e; omega)).trans y3, (World.cell?_setCell_other _ _ _ _ (by intro e; injection e; omega)).trans y4⟩)
                  (first | (go_at_call 68; refine (is_any x vlo vhi (bt s k) _ hlb HL.out ?_ ?_).mono ?_; exact HLO.out; exact HHI.out; rintro e w1 ⟨rfl, hb1⟩; have x0 := (hb1.cell (p := ⟨g, k, none⟩) hl1).trans hcan; have y0 := (hb1.cell (p := ⟨ga, i * 5, none⟩) hga2).trans c0; have y1 := (hb1.cell (p := ⟨ga, i * 5 + 1, none⟩) hga2).trans c1; have y2 := (hb1.cell (p := ⟨ga, i * 5 + 2, none⟩) hga2).trans c2; have y3 := (hb1.cell (p := ⟨ga, i * 5 + 3, none⟩) hga2).trans c3; have y4 := (hb1.cell (p := ⟨ga, i * 5 + 4, none⟩) hga2).trans c4; have z0 := (hb1.cell (p := ⟨wo.heap.size, k + 1, none⟩) hl2).trans hck; have z1 := (hb1.frozen (p := ⟨wo.heap.size, k + 1, none⟩) hl2).trans hfr; have HB1 := hide hb1; clear hb1))
                go_wp2
                go_roundw
                case rel =>
                  go_light
                  have r1 := HR1.out.of_block (HB1.out.block g hl1)
                  have r2 := HR2.out.of_block (HB1.out.block wo.heap.size hl2)
                  refine ⟨k + 1 + 1, by go_num, by omega, r1.setOther (by simp; omega) _, (r2.set (k + 1) _).congr (fun q _ => ?_), (below_up HB.out.drew HB1.out HB.out.size).setCell (by simp; omega) _⟩
                  by_cases e : q = k + 1
                  · subst e
                    rw [if_pos rfl, if_pos (by omega), Ess, HST.out, HBV.out, HE.out]; rfl
                  · rw [if_neg e]
                    by_cases e2 : q < k + 1
                    · rw [if_pos e2, if_pos (by omega)]
                    · rw [if_neg e2, if_neg (by omega)]
                case measure => simp [intOf] <;> omega
                --}G
        · obtain rfl : k = s.size + 1 := by omega
          --{Z
          go_wp2
          go_roundw
          case rel =>
            go_light
            exact ⟨i + 1, wo.heap.size, by go_num, rfl, by omega, hgn, HR2.out.congr (fun q hq => by rw [if_pos hq]), HB.out⟩
          case measure => simp [intOf] <;> omega
          --}Z
    · have e : i = l.length := by omega
      subst e
      go_wp2
      go_ret
      exact ⟨g, rfl, hg, HR.out, HB.out⟩
end Go.Proofs.Ythlboecjlelemaa
