/- Walk of the reference's Back. -/
import Derived.Test.YthlboecjlelemaaStripWalkE
namespace Go.Proofs.Ythlboecjlelemaa
open Go.RowKit Go.Deep Qm.Glob
attribute [local go_sem] bt_eq strOfNums_size sb_size

/-- the cells xs are the first k items of a list, the slices in them as at w -/
def RT (w : World) (l : List RI) (xs : List Value) (k : Nat) : Prop :=
  ∀ j x, j < k → l[j]? = some x → ∃ vlo vhi, (∀ q u, (riVals x vlo vhi)[q]? = some u → xs[j * 5 + q]? = some u) ∧ BytesAt w vlo x.lo ∧ BytesAt w vhi x.hi
theorem RT.snoc {w : World} {l : List RI} {xs : List Value} {k : Nat} {x : RI} {vlo vhi : Value} (h : RT w l xs k) (hl : xs.length = k * 5) (hx : l[k]? = some x) (h1 : BytesAt w vlo x.lo) (h2 : BytesAt w vhi x.hi) : RT w l (xs ++ riVals x vlo vhi) (k + 1) := by
  intro j y hj hy
  by_cases e : j = k
  · subst e
    rw [hx] at hy
    injection hy with hy
    subst hy
    refine ⟨vlo, vhi, fun q u hq => ?_, h1, h2⟩
    rw [List.getElem?_append_right (by omega), show j * 5 + q - xs.length = q from by omega]
    exact hq
  · obtain ⟨a, b, e1, e2, e3⟩ := h j y (by omega) hy
    refine ⟨a, b, fun q u hq => ?_, e2, e3⟩
    have := e1 q u hq
    have hlt := (List.getElem?_eq_some_iff.1 this).1
    rw [List.getElem?_append_left hlt]
    exact this
theorem ritems_of_rt {w wr : World} {v : Value} {base : Nat} {l : List RI} {xs : List Value} (h : wr.ownsRow base 72 5 v l.length xs) (hr : RT w l xs l.length) (hb : Below w.heap.size w wr)
    (hok : ∀ x ∈ l, x.lo.length = x.hi.length ∧ x.lo.length ≤ 1000) : ∃ A c, v = .slice A l.length c ∧ RItemsAt wr A l := by
  rcases h.2 with ⟨rfl, hn⟩ | ⟨g, cap, cur, rfl, _, hh, _⟩
  · refine ⟨none, 0, by rw [hn], fun k x hx => ?_⟩
    have := (List.getElem?_eq_some_iff.1 hx).1
    omega
  · refine ⟨_, cap, rfl, fun k x hx => ?_⟩
    obtain ⟨vlo, vhi, h1, h2, h3⟩ := hr k x (List.getElem?_eq_some_iff.1 hx).1 hx
    refine ⟨g, vlo, vhi, rfl, (h.lt g rfl).2, fun j u hu => ?_, h2.below hb, h3.below hb, (hok x (List.mem_of_getElem? hx)).1, (hok x (List.mem_of_getElem? hx)).2⟩
    have hj := h1 j u hu
    have hlt := (List.getElem?_eq_some_iff.1 hj).1
    rw [h.cellAt _ (by rw [← h.1]; exact hlt), hj]
theorem RItemsAt.below {w w' : World} {A : Option Addr} {l : List RI} (h : RItemsAt w A l) (hb : Below w.heap.size w w') : RItemsAt w' A l := fun k x hx => by
  obtain ⟨g, vlo, vhi, e, hg, hc, h1, h2, h3⟩ := h k x hx
  exact ⟨g, vlo, vhi, e, Nat.lt_of_lt_of_le hg hb.size, fun j u hu => (hb.cell (p := ⟨g, k * 5 + j, none⟩) hg).trans (hc j u hu), h1.below hb, h2.below hb, h3⟩
theorem mkB (n : Nat) (hn : n ≤ 100000) : ∀ w, (Instr.makeSlice 30 (.int .i64 (n : Int)) (.int .i64 (n : Int))).run Try.prog w = .ok (.slice (some ⟨w.heap.size, 0, none⟩) n n) (w.alloc (.cells (madeCells #[.int .u8 0] n) 5)) :=
  fun w => run_make_row' (P := Try.prog) 30 5 (.int .u8 0) 1 Try.underlying30 info5 rfl .i64 .i64 n (by omega) (by omega) w

theorem wpList_appT {ops : Array Oper} {rest : List Oper} {o : Oper} {a : Act} {Q : Exit → Act → World → Prop} (wr w1 : World) (hgd : o.guard = none) (s x : Operand)
    (ho : o.op = .call { callee := .builtin .append, args := #[s, x], argTypes := #[62, 62] }) (v : Value) (k : Nat) (xs : List Value) (hs : a.eval s = v)
    (hown : wr.ownsRow w1.heap.size 72 5 v k xs) (hB : Below w1.heap.size w1 wr) (l : List RI) (hrt : RT w1 l xs k) (it : RI) (vlo vhi : Value) (hit : l[k]? = some it)
    (hlo : BytesAt w1 vlo it.lo) (hhi : BytesAt w1 vhi it.hi)
    (hx : a.eval x = .slice (some ⟨wr.heap.size, 0, none⟩) 1 1) (hl : k ≤ 1000)
    (h : ∀ v' w', w'.ownsRow w1.heap.size 72 5 v' (k + 1) (xs ++ riVals it vlo vhi) → RT w1 l (xs ++ riVals it vlo vhi) (k + 1) → Below w1.heap.size w1 w' → wpList Try.prog ops Q rest (a.put o.dst v') w') :
    wpList Try.prog ops Q (o :: rest) a (wr.alloc (.cells #[.int .i64 it.kind, .int .u8 it.c, .bool it.nt, vlo, vhi] 72)) := by
  obtain ⟨i0, hi, hz0, hz1, hz2⟩ := info_parts info51
  have h1 : ∀ u ∈ (#[.int .i64 it.kind, .int .u8 it.c, .bool it.nt, vlo, vhi] : Array Value).toList, u.oneCell' = true := by
    obtain ⟨A, c, rfl, _⟩ := hlo
    obtain ⟨B, d, rfl, _⟩ := hhi
    intro u hu
    simp only [List.mem_cons, List.not_mem_nil, or_false] at hu
    rcases hu with rfl | rfl | rfl | rfl | rfl <;> rfl
  refine wpList_app1 wr hgd s x 62 ho w1.heap.size 72 i0 _ 5 64 Try.underlying62 hi hz0 hz1 hz2 rfl (by omega) v k xs hs hown _ 1 hx rfl h1
    (by simp only [maxLen]; omega) (by omega) hB.size w1.heap.size w1 hB (Nat.le_refl _) ?_
  intro v' w' ho' hb'
  exact h v' w' ho' (hrt.snoc hown.1 hit hlo hhi) hb'
set_option maxRecDepth 100000 in
set_option maxHeartbeats 1000000 in
theorem rback_any (s p : ByteArray) (most : Bool) (w : World) (hp : p.size ≤ 1000) (hs : s.size ≤ 1000) :
    Calls Try.prog 21 #[.string s, .string p, .bool most] w fun e w' => e = .returned (.string (gBack s p most)) ∧ Below w.heap.size w w' := by
  obtain ⟨i0, hi, hz0, hz1, hz2⟩ := info_parts info51
  have HI := hide (And.intro hi (And.intro hz0 (And.intro hz1 hz2)))
  clear hi hz0 hz1 hz2
  go_enter Try.func21, Try.ntmps21
  go_wp2_with fail
  refine (ritems_any p w hp).mono ?_
  rintro e w1 ⟨v, xs, rfl, hown, hris, hb⟩
  obtain ⟨A, c, rfl, hat⟩ := ritems_of_own hown hris (fun x hx => by have := rIt_ok _ _ _ _ x hx; omega)
  have hok : ∀ x ∈ (rItems (bt p) p.size).reverse, x.lo.length = x.hi.length ∧ x.lo.length ≤ 1000 := fun x hx => by
    have := rIt_ok _ _ _ _ x (List.mem_reverse.1 hx)
    omega
  have hln : (rItems (bt p) p.size).length ≤ 1000 := Nat.le_trans (rItems_len _ _) hp
  have HPAIR := hide (pair_items (bt p) p.size).rev
  generalize rItems (bt p) p.size = l at hat hok hln HPAIR ⊢
  have HAT := hide hat
  have HB := hide hb
  have HOK := hide hok
  clear hat hb hown hris hok
  go_wp2
  go_loopw [8, 9] (fun v8 v9 wr => ∃ (k : Nat) (xs : List Value), v9 = .int .i64 ((l.length : Int) - 1 - k) ∧ k ≤ l.length ∧ wr.ownsRow w1.heap.size 72 5 v8 k xs ∧ RT w1 l.reverse xs k ∧ Below w1.heap.size w1 wr) (fun _ v9 _ => (intOf v9 + 1).toNat)
  case atStart => exact ⟨0, [], by simp, by omega, World.ownsRow_nil _ _ _ _, fun j x hj => by omega, Below.refl _ _⟩
  case round =>
    obtain ⟨k, xs, rfl, hk, ho, hrt, hb⟩ := hrel
    have HO := hide ho
    have HRT := hide hrt
    have HW := hide hb
    clear ho hrt hb
    by_cases hlt : k < l.length
    · obtain ⟨j, hj⟩ : ∃ j : Nat, (l.length : Int) - 1 - k = (j : Int) := ⟨l.length - 1 - k, by omega⟩
      rw [hj]
      obtain ⟨x, hx⟩ : ∃ x, l[j]? = some x := ⟨l[j]'(by omega), List.getElem?_eq_getElem (by omega)⟩
      obtain ⟨ga, vlo, vhi, rfl, hga, hcs, hlo, hhi, hle, hlb⟩ := HAT.out j x hx
      have hcc : ∀ q u, (riVals x vlo vhi)[q]? = some u → wr.cell? ⟨ga, j * 5 + q, none⟩ = some u := fun q u hq => (HW.out.cell (p := ⟨ga, j * 5 + q, none⟩) hga).trans (hcs q u hq)
      have c0 : wr.cell? ⟨ga, j * 5, none⟩ = some (.int .i64 x.kind) := hcc 0 _ rfl
      have c1 : wr.cell? ⟨ga, j * 5 + 1, none⟩ = some (.int .u8 x.c) := hcc 1 _ rfl
      have c2 : wr.cell? ⟨ga, j * 5 + 2, none⟩ = some (.bool x.nt) := hcc 2 _ rfl
      have c3 : wr.cell? ⟨ga, j * 5 + 3, none⟩ = some vlo := hcc 3 _ rfl
      have c4 : wr.cell? ⟨ga, j * 5 + 4, none⟩ = some vhi := hcc 4 _ rfl
      have hjn : (j : Int) < (l.length : Int) := by omega
      have hx2 : l.reverse[k]? = some x := by rw [List.getElem?_reverse hlt, show l.length - 1 - k = j from by omega]; exact hx
      have HX := hide hx2
      have HJ := hide hj
      have HLO := hide hlo
      have HHI := hide hhi
      clear hj hx hx2 hle hlb hlo hhi hcc hcs
      go_wp2_with (at_builtin; refine wpList_appT wr w1 ?_ (.tmp 22) (.tmp 27) ?_ u8 k xs ?_ HO.out HW.out l.reverse HRT.out x vlo vhi HX.out HLO.out HHI.out ?_ ?_ ?_; exact rfl; exact rfl; exact rfl; exact rfl; omega; intro v1 w2 ho1 hr1 hb1)
      go_roundw
      case rel =>
        have hj := HJ.out
        exact ⟨k + 1, _, by rw [show (j : Int) - 1 = (l.length : Int) - 1 - ((k + 1 : Nat) : Int) from by omega], by omega, ho1, hr1, hb1⟩
      case measure => simp [intOf] <;> omega
    · obtain rfl : k = l.length := by omega
      obtain ⟨A2, c2, rfl, hat2⟩ := ritems_of_rt (l := l.reverse) (by rw [List.length_reverse]; exact HO.out) (by rw [List.length_reverse]; exact HRT.out) HW.out HOK.out
      rw [List.length_reverse]
      have HAT2 := hide hat2
      have HB2 := hide (below_up HB.out HW.out HB.out.size)
      clear hat2 HAT HB HO HRT HW
      obtain ⟨wo, rfl⟩ : ∃ wo : World, wo = wr := ⟨_, rfl⟩
      have hng : (decide ((0 : Int) ≤ (l.length : Int) - 1 - (l.length : Int))) = false := by simp only [decide_eq_false_iff_not]; omega
      have hmk := mkB s.size (by omega)
      have hrow := World.rowIs_made wo (.int .u8 0) s.size 5
      have HROW := hide hrow
      clear hrow
      go_wp2
      go_loopw [11] (fun v11 wx => ∃ k : Nat, v11 = .int .i64 k ∧ k ≤ s.size ∧ wx.rowIs wo.heap.size 5 s.size (fun q => if s.size ≤ q + k then .int .u8 (bt s (s.size - 1 - q) : Nat) else .int .u8 0) ∧ Below wo.heap.size wo wx) (fun v11 _ => s.size - (intOf v11).toNat)
      case atStart => exact ⟨0, rfl, by omega, HROW.out.congr (fun q hq => by rw [if_neg (by omega)]), (Below.refl _ _).alloc (Nat.le_refl _) _⟩
      case round =>
        obtain ⟨k, rfl, hk, hr, hb⟩ := hrel
        clear HROW
        have HR := hide hr
        have HW := hide hb
        clear hr hb
        by_cases hlt : k < s.size
        · obtain ⟨q, hq⟩ : ∃ q : Nat, (s.size : Int) - 1 - (k : Int) = (q : Int) := ⟨s.size - 1 - k, by omega⟩
          have hqs : q < s.size := by omega
          have hcell := HR.out.cell (i := q) hqs
          have hfr := HR.out.frozen q
          have hq2 : (q : Int) < (s.size : Int) := by omega
          go_wp2
          go_roundw
          case rel =>
            go_light
            refine ⟨k + 1, by go_num, by omega, (HR.out.set q _).congr (fun z hz => ?_), HW.out.setCell (by simp) _⟩
            by_cases e : z = q
            · subst e
              rw [if_pos rfl, if_pos (by omega), show s.size - 1 - z = k from by omega]
            · rw [if_neg e]
              by_cases e2 : s.size ≤ z + k
              · rw [if_pos e2, if_pos (by omega)]
              · rw [if_neg e2, if_neg (by omega)]
          case measure => simp [intOf]; omega
        · obtain rfl : k = s.size := by omega
          have hcv := conv_row (W := wr) (g := wo.heap.size) (n := s.size) (cap := s.size) (f := fun q => bt s (s.size - 1 - q)) ⟨fun i hi => by rw [HR.out.cell hi, if_pos (by omega)], fun i _ => HR.out.frozen i⟩
          rw [show sb ((List.range s.size).map fun q => bt s (s.size - 1 - q)) = rvS s from rfl] at hcv
          have HRZ := hide (rvS_size s)
          have HAT3 := hide (HAT2.out.below HW.out)
          have HB3 := hide (below_up HB2.out HW.out HB2.out.size)
          clear HAT2 HB2 HW HR
          have hfr := fronts_any (rvS s) A2 c2 l.reverse wr (by rw [HRZ.out]; exact hs) (by rw [List.length_reverse]; exact hln) HAT3.out
          rw [List.length_reverse, HRZ.out] at hfr
          go_wp2_with fail
          refine hfr.mono ?_
          rintro e w5 ⟨g, rfl, hg, hrow, hb5⟩
          have HROW := hide (hrow.congr (g := fun i => .bool (EL (gItems (bt p) p.size).reverse (bt (rvS s)) i)) fun i _ => by rw [pair_same HPAIR.out (bt (rvS s)) (bt_lt _) i]; unfold ELR; rw [List.length_reverse]; rfl)
          have HB5 := hide (below_up HB3.out hb5 HB3.out.size)
          clear hrow hb5 HAT3 HB3 hg hcv hfr
          go_wp2_with fail
          refine (off_any g (s.size + 1) (EL (gItems (bt p) p.size).reverse (bt (rvS s))) most w5 (by omega) HROW.out).mono ?_
          rintro e w6 ⟨rfl, rfl⟩
          have hle := bkN_le s p most
          have HF := hide (show gBack s p most = s.extract 0 (s.size - bkN s p most) from rfl)
          unfold bkN at hle HF
          clear HROW
          generalize pickO (EL (gItems (bt p) p.size).reverse (bt (rvS s))) most (s.size + 1) = o at hle HF ⊢
          cases o with
          | none =>
            simp only [pickI]
            go_wp2
            go_ret
            refine ⟨?_, HB5.out⟩
            rw [HF.out]
            simp
          | some k =>
            simp only [pickI]
            simp only [Option.getD_some] at hle HF
            have hk0 : (decide ((k : Int) < 0)) = false := by simp
            obtain ⟨m, hm⟩ : ∃ m, s.size = m + k := ⟨s.size - k, by omega⟩
            go_wp2
            go_ret
            exact ⟨by rw [HF.out, show s.size - k = m from by omega]; rfl, HB5.out⟩
end Go.Proofs.Ythlboecjlelemaa
