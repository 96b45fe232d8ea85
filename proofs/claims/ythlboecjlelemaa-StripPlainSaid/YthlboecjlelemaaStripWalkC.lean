/- The walk of slices.Reverse at glob's items. -/
import Derived.Test.YthlboecjlelemaaStripWalkB
import Derived.Test.YthlboecjlelemaaGlobWalkE
namespace Go.Proofs.Ythlboecjlelemaa
open Go.RowKit Go.Deep Qm.Glob
/-- item k of a list whose cells lie one behind the other -/
def giQ (l : List GI) (k j : Nat) : Value := (l.getD k giStar).cells.getD j default
/-- eight cells stored one behind the other -/
def set8 (w : World) (g o : Nat) (u0 u1 u2 u3 u4 u5 u6 u7 : Value) : World :=
  (((((((w.setCell ⟨g, o, none⟩ u0).setCell ⟨g, o + 1, none⟩ u1).setCell ⟨g, o + 2, none⟩ u2).setCell ⟨g, o + 3, none⟩ u3).setCell ⟨g, o + 4, none⟩ u4).setCell ⟨g, o + 5, none⟩ u5).setCell ⟨g, o + 6, none⟩ u6).setCell ⟨g, o + 7, none⟩ u7
theorem RowF.set8 {w : World} {g n o : Nat} {f F : Nat → Value} {u0 u1 u2 u3 u4 u5 u6 u7 : Value} (h : RowF w g n f) (ho : o + 8 ≤ n) (h0 : F o = u0) (h1 : F (o + 1) = u1) (h2 : F (o + 2) = u2) (h3 : F (o + 3) = u3) (h4 : F (o + 4) = u4) (h5 : F (o + 5) = u5) (h6 : F (o + 6) = u6) (h7 : F (o + 7) = u7)
    (hx : ∀ q, q < n → (q < o ∨ o + 8 ≤ q) → F q = f q) : RowF (set8 w g o u0 u1 u2 u3 u4 u5 u6 u7) g n F :=
  ((((((((h.set (i := o) (by omega) u0).set (i := o + 1) (by omega) u1).set (i := o + 2) (by omega) u2).set (i := o + 3) (by omega) u3).set (i := o + 4) (by omega) u4).set (i := o + 5) (by omega) u5).set (i := o + 6) (by omega) u6).set (i := o + 7) (by omega) u7).congr fun q hq => by
    by_cases c : q < o ∨ o + 8 ≤ q
    · rw [hx q hq c]
      rw [if_neg (by omega), if_neg (by omega), if_neg (by omega), if_neg (by omega), if_neg (by omega), if_neg (by omega), if_neg (by omega), if_neg (by omega)]
    · have hh : q = o ∨ q = o + 1 ∨ q = o + 2 ∨ q = o + 3 ∨ q = o + 4 ∨ q = o + 5 ∨ q = o + 6 ∨ q = o + 7 := by omega
      rcases hh with rfl | rfl | rfl | rfl | rfl | rfl | rfl | rfl <;> simp [*]
theorem gb_set8 {a w : World} {g : Nat} (h : a.grownBy w (some g)) (o : Nat) (u0 u1 u2 u3 u4 u5 u6 u7 : Value) : a.grownBy (set8 w g o u0 u1 u2 u3 u4 u5 u6 u7) (some g) :=
  gb_setCell (gb_setCell (gb_setCell (gb_setCell (gb_setCell (gb_setCell (gb_setCell (gb_setCell h _ _) _ _) _ _) _ _) _ _) _ _) _ _) _ _
theorem rvF_i {n i : Nat} : rvF (fun k => k) n (i + 1) i = n - 1 - i := by
  unfold rvF
  rw [if_pos (by omega)]
theorem rvF_j {n i : Nat} (h : 2 * i + 1 < n) : rvF (fun k => k) n (i + 1) (n - 1 - i) = i := by
  unfold rvF
  rw [if_pos (by omega)]
  show n - 1 - (n - 1 - i) = i
  omega
theorem rvF_else {n i q : Nat} (h : 2 * i + 1 < n) (h1 : q ≠ i) (h2 : q ≠ n - 1 - i) (hq : q < n) : rvF (fun k => k) n (i + 1) q = rvF (fun k => k) n i q := by
  rw [← rvF_step h q hq, if_neg h2, if_neg h1]
set_option maxRecDepth 100000 in
set_option maxHeartbeats 1000000 in
theorem revI_any (g cap : Nat) (l : List GI) (w : World) (hn : l.length ≤ 100000) (hr : RowF w g (l.length * 8) (fun q => giQ l (q / 8) (q % 8))) :
    Calls Try.prog 49 #[.slice (some ⟨g, 0, none⟩) l.length cap] w fun e w' => e = .returned (.tuple #[]) ∧ RowF w' g (l.length * 8) (fun q => giQ l (l.length - 1 - q / 8) (q % 8)) ∧ w.grownBy w' (some g) := by
  have HR := hide hr
  clear hr
  generalize hN : l.length = n at hn HR
  go_enter Try.func49, Try.ntmps49
  go_wp2
  go_loopw [2, 3] (fun v2 v3 wr => ∃ i : Nat, v2 = .int .i64 i ∧ v3 = .int .i64 ((n : Int) - 1 - i) ∧ 2 * i ≤ n + 1 ∧ RowF wr g (n * 8) (fun q => giQ l (rvF (fun k => k) n i (q / 8)) (q % 8)) ∧ w.grownBy wr (some g)) (fun v2 _ _ => n + 1 - (intOf v2).toNat)
  case atStart => exact ⟨0, rfl, by simp, by omega, HR.out.congr fun i hi => by rw [rvF_in (by omega) (by omega)], World.grownBy.refl _ _⟩
  case round =>
    obtain ⟨i, rfl, rfl, hi, hr, hg2⟩ := hrel
    clear HR
    have HR := hide hr
    have HG := hide hg2
    clear hr hg2
    by_cases hlt : 2 * i + 1 < n
    · obtain ⟨j, hj⟩ : ∃ j : Nat, (n : Int) - 1 - i = (j : Int) := ⟨n - 1 - i, by omega⟩
      rw [hj]
      have hjn : j < n := by omega
      have hij : i < j := by omega
      have hin : i < n := by omega
      have hc : ∀ k q, i ≤ k → k ≤ n - 1 - i → k < n → q < 8 → wr.cell? ⟨g, k * 8 + q, none⟩ = some (giQ l k q) := fun k q h1 h2 h3 h4 =>
        HR.out.rd (by omega) (by rw [show (k * 8 + q) / 8 = k from by omega, show (k * 8 + q) % 8 = q from by omega, rvF_in h1 h2])
      have hf : ∀ k q, k < n → q < 8 → wr.frozen? ⟨g, k * 8 + q, none⟩ = false := fun k q h3 h4 => HR.out.2 _ (by omega)
      have b1 : (i : Int) < (j : Int) := by omega
      have b2 : (j : Int) < (n : Int) := by omega
      have b3 : (i : Int) < (n : Int) := by omega
      generalize hx : l.getD i giStar = x at *
      generalize hy : l.getD j giStar = y at *
      obtain ⟨x0, xS, x1, xc, x2⟩ := x
      obtain ⟨y0, yS, y1, yc, y2⟩ := y
      have gx : ∀ q, giQ l i q = (GI.mk x0 xS x1 xc x2).cells.getD q default := fun q => by unfold giQ; rw [hx]
      have gy : ∀ q, giQ l j q = (GI.mk y0 yS y1 yc y2).cells.getD q default := fun q => by unfold giQ; rw [hy]
      have c0 : wr.cell? ⟨g, i * 8, none⟩ = some (.bool x0) := (hc i 0 (by omega) (by omega) hin (by omega)).trans (congrArg some (gx 0))
      have c1 : wr.cell? ⟨g, i * 8 + 1, none⟩ = some (.int .u64 (wd xS 0)) := (hc i 1 (by omega) (by omega) hin (by omega)).trans (congrArg some (gx 1))
      have c2 : wr.cell? ⟨g, i * 8 + 2, none⟩ = some (.int .u64 (wd xS 1)) := (hc i 2 (by omega) (by omega) hin (by omega)).trans (congrArg some (gx 2))
      have c3 : wr.cell? ⟨g, i * 8 + 3, none⟩ = some (.int .u64 (wd xS 2)) := (hc i 3 (by omega) (by omega) hin (by omega)).trans (congrArg some (gx 3))
      have c4 : wr.cell? ⟨g, i * 8 + 4, none⟩ = some (.int .u64 (wd xS 3)) := (hc i 4 (by omega) (by omega) hin (by omega)).trans (congrArg some (gx 4))
      have c5 : wr.cell? ⟨g, i * 8 + 5, none⟩ = some (.bool x1) := (hc i 5 (by omega) (by omega) hin (by omega)).trans (congrArg some (gx 5))
      have c6 : wr.cell? ⟨g, i * 8 + 6, none⟩ = some (.int .u8 xc) := (hc i 6 (by omega) (by omega) hin (by omega)).trans (congrArg some (gx 6))
      have c7 : wr.cell? ⟨g, i * 8 + 7, none⟩ = some (.bool x2) := (hc i 7 (by omega) (by omega) hin (by omega)).trans (congrArg some (gx 7))
      have d0 : wr.cell? ⟨g, j * 8, none⟩ = some (.bool y0) := (hc j 0 (by omega) (by omega) hjn (by omega)).trans (congrArg some (gy 0))
      have d1 : wr.cell? ⟨g, j * 8 + 1, none⟩ = some (.int .u64 (wd yS 0)) := (hc j 1 (by omega) (by omega) hjn (by omega)).trans (congrArg some (gy 1))
      have d2 : wr.cell? ⟨g, j * 8 + 2, none⟩ = some (.int .u64 (wd yS 1)) := (hc j 2 (by omega) (by omega) hjn (by omega)).trans (congrArg some (gy 2))
      have d3 : wr.cell? ⟨g, j * 8 + 3, none⟩ = some (.int .u64 (wd yS 2)) := (hc j 3 (by omega) (by omega) hjn (by omega)).trans (congrArg some (gy 3))
      have d4 : wr.cell? ⟨g, j * 8 + 4, none⟩ = some (.int .u64 (wd yS 3)) := (hc j 4 (by omega) (by omega) hjn (by omega)).trans (congrArg some (gy 4))
      have d5 : wr.cell? ⟨g, j * 8 + 5, none⟩ = some (.bool y1) := (hc j 5 (by omega) (by omega) hjn (by omega)).trans (congrArg some (gy 5))
      have d6 : wr.cell? ⟨g, j * 8 + 6, none⟩ = some (.int .u8 yc) := (hc j 6 (by omega) (by omega) hjn (by omega)).trans (congrArg some (gy 6))
      have d7 : wr.cell? ⟨g, j * 8 + 7, none⟩ = some (.bool y2) := (hc j 7 (by omega) (by omega) hjn (by omega)).trans (congrArg some (gy 7))
      have e0 := hf i 0 hin (by omega)
      have e1 := hf i 1 hin (by omega)
      have e2 := hf i 2 hin (by omega)
      have e3 := hf i 3 hin (by omega)
      have e4 := hf i 4 hin (by omega)
      have e5 := hf i 5 hin (by omega)
      have e6 := hf i 6 hin (by omega)
      have e7 := hf i 7 hin (by omega)
      have f0 := hf j 0 hjn (by omega)
      have f1 := hf j 1 hjn (by omega)
      have f2 := hf j 2 hjn (by omega)
      have f3 := hf j 3 hjn (by omega)
      have f4 := hf j 4 hjn (by omega)
      have f5 := hf j 5 hjn (by omega)
      have f6 := hf j 6 hjn (by omega)
      have f7 := hf j 7 hjn (by omega)
      rw [Nat.add_zero] at e0 f0
      have HJ := hide hj
      have HX := hide gx
      have HY := hide gy
      clear hj gx gy hc hf hx hy
      go_wp2
      go_region
      go_wp2
      go_roundw
      case rel =>
        go_light
        have hj := HJ.out
        obtain rfl : j = n - 1 - i := by omega
        have kx := HX.out
        have ky := HY.out
        have ei : ∀ q, q < 8 → giQ l (rvF (fun k => k) n (i + 1) ((i * 8 + q) / 8)) ((i * 8 + q) % 8) = (GI.mk y0 yS y1 yc y2).cells.getD q default := fun q hq => by
          rw [show (i * 8 + q) / 8 = i from by omega, show (i * 8 + q) % 8 = q from by omega, rvF_i, ky]
        have ej : ∀ q, q < 8 → giQ l (rvF (fun k => k) n (i + 1) (((n - 1 - i) * 8 + q) / 8)) (((n - 1 - i) * 8 + q) % 8) = (GI.mk x0 xS x1 xc x2).cells.getD q default := fun q hq => by
          rw [show ((n - 1 - i) * 8 + q) / 8 = n - 1 - i from by omega, show ((n - 1 - i) * 8 + q) % 8 = q from by omega, rvF_j hlt, kx]
        refine ⟨i + 1, by go_num, by rw [show (((n - 1 - i : Nat) : Int) - 1) = (n : Int) - 1 - ((i + 1 : Nat) : Int) from by omega], by omega, ?_, gb_drew (gb_set8 (gb_set8 HG.out _ _ _ _ _ _ _ _ _) _ _ _ _ _ _ _ _ _)⟩
        have r1 := HR.out.set8 (F := fun q => if i * 8 ≤ q ∧ q < i * 8 + 8 then giQ l (rvF (fun k => k) n (i + 1) (q / 8)) (q % 8) else giQ l (rvF (fun k => k) n i (q / 8)) (q % 8)) (o := i * 8) (by omega)
          (u0 := .bool y0) (u1 := .int .u64 (wd yS 0)) (u2 := .int .u64 (wd yS 1)) (u3 := .int .u64 (wd yS 2)) (u4 := .int .u64 (wd yS 3)) (u5 := .bool y1) (u6 := .int .u8 yc) (u7 := .bool y2)
          (by rw [if_pos (by omega)]; exact ei 0 (by omega)) (by rw [if_pos (by omega)]; exact ei 1 (by omega)) (by rw [if_pos (by omega)]; exact ei 2 (by omega)) (by rw [if_pos (by omega)]; exact ei 3 (by omega))
          (by rw [if_pos (by omega)]; exact ei 4 (by omega)) (by rw [if_pos (by omega)]; exact ei 5 (by omega)) (by rw [if_pos (by omega)]; exact ei 6 (by omega)) (by rw [if_pos (by omega)]; exact ei 7 (by omega))
          (fun q hq c => by rw [if_neg (by omega)])
        refine (r1.set8 (F := fun q => giQ l (rvF (fun k => k) n (i + 1) (q / 8)) (q % 8)) (o := (n - 1 - i) * 8) (by omega)
          (u0 := .bool x0) (u1 := .int .u64 (wd xS 0)) (u2 := .int .u64 (wd xS 1)) (u3 := .int .u64 (wd xS 2)) (u4 := .int .u64 (wd xS 3)) (u5 := .bool x1) (u6 := .int .u8 xc) (u7 := .bool x2)
          (ej 0 (by omega)) (ej 1 (by omega)) (ej 2 (by omega)) (ej 3 (by omega)) (ej 4 (by omega)) (ej 5 (by omega)) (ej 6 (by omega)) (ej 7 (by omega)) (fun q hq c => ?_)).drew
        by_cases c2 : i * 8 ≤ q ∧ q < i * 8 + 8
        · rw [if_pos c2]
        · rw [if_neg c2, rvF_else hlt (by omega) (by omega) (by omega)]
      case measure => simp [intOf]; omega
    · go_wp2
      go_end0
      refine ⟨rfl, HR.out.congr fun q hq => by rw [rvF_end (by omega) _ (by omega)], HG.out⟩
theorem rowF_of_own {w : World} {base : Nat} {v : Value} {l : List GI} (h : w.ownsRow base 69 8 v l.length (giCells l)) : (v = .slice none 0 0 ∧ l.length = 0) ∨ ∃ g cap, v = .slice (some ⟨g, 0, none⟩) l.length cap ∧ base ≤ g ∧ g < w.heap.size ∧ RowF w g (l.length * 8) (fun q => giQ l (q / 8) (q % 8)) := by
  rcases h.2 with ⟨rfl, hn⟩ | ⟨g, cap, cur, rfl, hbg, hh, _⟩
  · exact .inl ⟨rfl, hn⟩
  · refine .inr ⟨g, cap, rfl, hbg, (h.lt g rfl).2, fun q hq => ?_, fun q _ => by simp [World.frozen?, hh]⟩
    rw [h.cellAt q hq]
    have hk : q / 8 < l.length := by omega
    obtain ⟨x, hx⟩ : ∃ x, l[q / 8]? = some x := ⟨l[q / 8], List.getElem?_eq_getElem hk⟩
    have h8 : q % 8 < x.cells.length := by
      have : x.cells.length = 8 := rfl
      omega
    have hj : ∃ u, x.cells[q % 8]? = some u := ⟨x.cells[q % 8], List.getElem?_eq_getElem h8⟩
    obtain ⟨u, hu⟩ := hj
    have := giCells_get l (q / 8) x hx (q % 8) u hu
    rw [show q / 8 * 8 + q % 8 = q from by omega] at this
    rw [this]
    show some u = some (giQ l (q / 8) (q % 8))
    rw [giQ, List.getD_eq_getElem?_getD, List.getD_eq_getElem?_getD, hx]
    simp [hu]
set_option maxRecDepth 100000 in
set_option maxHeartbeats 1000000 in
theorem revI_nil (w : World) : Calls Try.prog 49 #[.slice none 0 0] w fun e w' => e = .returned (.tuple #[]) ∧ w = w' := by
  go_enter Try.func49, Try.ntmps49
  go_wp2
  go_loop [2, 3] (fun v2 v3 => v2 = .int .i64 0 ∧ v3 = .int .i64 (-1)) (fun v2 _ => 0)
  case atStart => exact ⟨rfl, rfl⟩
  case round =>
    obtain ⟨rfl, rfl⟩ := hrel
    go_wp2
    go_end0
    exact ⟨rfl, rfl⟩
/-- items of the call's own turned round -/
theorem revI_own (w : World) (base : Nat) (v : Value) (l : List GI) (hn : l.length ≤ 100000) (h : w.ownsRow base 69 8 v l.length (giCells l)) :
    ∃ A c, v = .slice A l.length c ∧ Calls Try.prog 49 #[.slice A l.length c] w fun e w' => e = .returned (.tuple #[]) ∧ ItemsAt w' A w.heap.size l.reverse ∧ w.heap.size ≤ w'.heap.size ∧ (∀ B w0, Below B w0 w → B ≤ base → Below B w0 w') := by
  rcases rowF_of_own h with ⟨rfl, h0⟩ | ⟨g, cap, rfl, hbg, hgl, hr⟩
  · refine ⟨none, 0, by rw [h0], ?_⟩
    rw [h0]
    refine (revI_nil w).mono ?_
    rintro e w1 ⟨rfl, rfl⟩
    refine ⟨rfl, fun k x hx => ?_, Nat.le_refl _, fun B w0 h _ => h⟩
    have := (List.getElem?_eq_some_iff.1 hx).1
    simp at this
    omega
  · refine ⟨_, cap, rfl, (revI_any g cap l w hn hr).mono ?_⟩
    rintro e w1 ⟨rfl, hr1, hgb⟩
    refine ⟨rfl, fun k x hx => ⟨g, rfl, hgl, fun j u hu => ?_⟩, hgb.size, fun B w0 hb hB => hb.trans (below_of_gb hgb (Nat.le_trans hb.size (Nat.le_refl _) |> fun h => by omega) (by omega))⟩
    have hk := (List.getElem?_eq_some_iff.1 hx).1
    have hj := (List.getElem?_eq_some_iff.1 hu).1
    simp at hk
    have hj8 : j < 8 := by simpa [GI.cells, giAgg] using hj
    rw [hr1.1 (k * 8 + j) (by omega)]
    show some (giQ l (l.length - 1 - (k * 8 + j) / 8) ((k * 8 + j) % 8)) = some u
    rw [show (k * 8 + j) / 8 = k from by omega, show (k * 8 + j) % 8 = j from by omega, giQ]
    rw [List.getElem?_reverse hk] at hx
    rw [List.getD_eq_getElem?_getD, List.getD_eq_getElem?_getD, hx]
    simp [hu]
end Go.Proofs.Ythlboecjlelemaa
