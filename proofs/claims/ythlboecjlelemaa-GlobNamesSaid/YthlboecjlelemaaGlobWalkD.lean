/- Walk of package glob's Items. -/
import Derived.Test.YthlboecjlelemaaGlobWalkC
namespace Go.Proofs.Ythlboecjlelemaa
open Go.RowKit Go.Deep Qm.Glob
attribute [local go_sem] bt_eq

theorem Try.info49 : (Try.prog.info? 69).map (fun i => (i.zero, i.size, i.bytes)) = some (some (.agg (giAgg false (fun _ => false) false 0 false)), 8, 48) := by
  unfold giAgg; simp only [wd_empty]; kernel_rfl
theorem wpList_appI {ops : Array Oper} {rest : List Oper} {o : Oper} {a : Act} {Q : Exit → Act → World → Prop} (wr w0 : World) (hgd : o.guard = none) (s x : Operand)
    (ho : o.op = .call { callee := .builtin .append, args := #[s, x], argTypes := #[59, 59] }) (v : Value) (acc : List GI) (hs : a.eval s = v)
    (hown : Hid (wr.ownsRow w0.heap.size 69 8 v acc.length (giCells acc))) (hB : Hid (Below w0.heap.size w0 wr)) (news : Array Value) (it : GI) (hn : news.toList = it.cells)
    (hx : a.eval x = .slice (some ⟨wr.heap.size, 0, none⟩) 1 1) (hl : acc.length ≤ 1000)
    (h : ∀ v' w', Hid (w'.ownsRow w0.heap.size 69 8 v' (acc ++ [it]).length (giCells (acc ++ [it]))) → Hid (Below w0.heap.size w0 w') → wpList Try.prog ops Q rest (a.put o.dst v') w') :
    wpList Try.prog ops Q (o :: rest) a (wr.alloc (.cells news 69)) := by
  obtain ⟨i0, hi, hz0, hz1, hz2⟩ := info_parts Try.info49
  refine wpList_app1 wr hgd s x 59 ho w0.heap.size 69 i0 _ 8 48 Try.underlying59 hi hz0 hz1 hz2 rfl (by omega) v acc.length (giCells acc) hs hown.out news 1 hx ?_ ?_
    (by simp only [maxLen]; omega) (by omega) hB.out.size w0.heap.size w0 hB.out (Nat.le_refl _) ?_
  · have := congrArg List.length hn
    simpa [GI.cells, giAgg] using this
  · rw [hn]; exact gi_one' it
  · intro v' w' ho' hb'
    refine h v' w' ?_ hb'
    rw [hn, ← giCells_snoc] at ho'
    rw [List.length_append]
    exact ho'
theorem giStar_cells : (#[.bool true, .int .u64 0, .int .u64 0, .int .u64 0, .int .u64 0, .bool false, .int .u8 0, .bool false] : Array Value).toList = giStar.cells := by
  simp only [GI.cells, giAgg, giStar, wd_empty]
  rfl
theorem gi_news (b0 : Bool) (S : Nat → Bool) (b1 : Bool) (c : Nat) (b2 : Bool) : (#[.bool b0, .int .u64 (wd S 0), .int .u64 (wd S 1), .int .u64 (wd S 2), .int .u64 (wd S 3), .bool b1, .int .u8 c, .bool b2] : Array Value).toList = (GI.mk b0 S b1 c b2).cells := rfl
theorem slice_new (w : World) (o : Obj) : Value.slice (some ⟨w.heap.size + 1, 0, none⟩) 1 1 = Value.slice (some ⟨(w.alloc o).heap.size, 0, none⟩) 1 1 := by simp
/-- what the loop of Items knows: k is the place, v the slice -/
def ItRel (s : ByteArray) (w : World) (v3 v4 : Value) (wr : World) : Prop :=
  ∃ (k f : Nat) (acc : List GI), v4 = .int .i64 k ∧ k ≤ s.size ∧ s.size < f + k ∧ acc.length ≤ k ∧ acc ++ gIt (bt s) s.size f k = gItems (bt s) s.size ∧
    wr.ownsRow w.heap.size 69 8 v3 acc.length (giCells acc) ∧ Below w.heap.size w wr

set_option maxRecDepth 100000 in
set_option maxHeartbeats 1000000 in
theorem items_any (s : ByteArray) (w : World) (hs : s.size ≤ 1000) :
    Calls Try.prog 45 #[.string s] w fun e w' => ∃ v, e = .returned v ∧ w'.ownsRow w.heap.size 69 8 v (gItems (bt s) s.size).length (giCells (gItems (bt s) s.size)) ∧ Below w.heap.size w w' := by
  obtain ⟨i0, hi, hz0, hz1, hz2⟩ := info_parts Try.info49
  go_enter Try.func45, Try.ntmps45
  go_wp2
  go_loopw [3, 4] (fun v3 v4 wr => ItRel s w v3 v4 wr) (fun _ v4 _ => s.size - (intOf v4).toNat)
  case atStart => exact ⟨0, s.size + 1, [], rfl, by omega, by omega, by simp, rfl, World.ownsRow_nil _ _ _ _, Below.refl _ _⟩
  case round =>
    obtain ⟨k, f, acc, rfl, hk, hf, hal, hR, hown, hb⟩ := hrel

    have HR := hide hR
    have HO := hide hown
    have HB := hide hb
    clear hR hown hb
    by_cases hlt : k < s.size
    · obtain ⟨f, rfl⟩ : ∃ f', f = f' + 1 := ⟨f - 1, by omega⟩
      by_cases h42 : bt s k = 42
      · --{A
        have h1 : (((bt s k : Nat) : Int) == 42) = true := by simp only [beq_iff_eq]; omega
        have HH := hide h42
        clear h42
        go_wp2_with (at_builtin; go_must (refine wpList_appI wr w ?_ (.tmp 22) (.tmp 24) ?_ u3 acc ?_ HO HB ?_ giStar ?_ ?_ ?_ ?_); exact rfl; exact rfl; exact rfl; exact giStar_cells; exact rfl; omega; intro v1 w1 HO1 HB1)
        go_roundw
        case rel =>
          refine ⟨k + 1, f, acc ++ [giStar], by go_num, by omega, by omega, by simp; omega, ?_, HO1.out, HB1.out⟩
          rw [← HR.out, gIt, if_pos hlt, if_pos HH.out]
          simp
        case measure => simp [intOf]; omega
        --}A
      · have g42 : (((bt s k : Nat) : Int) == 42) = false := by simp only [beq_eq_false_iff_ne]; omega
        by_cases h63 : bt s k = 63
        · --{B
          have h1 : (((bt s k : Nat) : Int) == 63) = true := by simp only [beq_iff_eq]; omega
          have HH := hide h63
          have HH2 := hide h42
          clear h63 h42
          have hn := gi_new wr false false false 0
          have ho1 := HO.out.alloc (.cells #[.bool false, .int .u64 0, .int .u64 0, .int .u64 0, .int .u64 0, .bool false, .int .u8 (0 : Nat), .bool false] 69)
          have hb1 := HB.out.alloc HB.out.size (.cells #[.bool false, .int .u64 0, .int .u64 0, .int .u64 0, .int .u64 0, .bool false, .int .u8 (0 : Nat), .bool false] 69)
          have hlt3 := HO.out.lt
          have HN := hide hn
          have HO1 := hide ho1
          have HB1 := hide hb1
          have HL := hide hlt3
          clear hn ho1 hb1 hlt3
          go_wp2_with fail
          refine (add_any wr.heap.size false (fun _ => false) false 0 false 0 255 _ (by omega) (by omega) HN.out).mono ?_
          rintro e w1 ⟨rfl, hr, hg⟩
          have HO2 := hide (own_gb HO1.out hg (fun k hk => by have := HL.out k hk; omega))
          have HB2 := hide (HB1.out.trans (below_of_gb hg (by have := HB.out.size; simp; omega) HB.out.size))
          obtain ⟨c0, c1, c2, c3, c4, c5, c6, c7⟩ := gi_cells hr
          clear hr hg HN HO1 HB1 HL
          go_wp2_with (at_builtin; go_must (refine wpList_appI w1 w ?_ (.tmp 31) (.tmp 33) ?_ u3 acc ?_ HO2 HB2 ?_ giAny ?_ ?_ ?_ ?_); exact rfl; exact rfl; exact rfl; exact gi_news _ _ _ _ _; exact rfl; omega; intro v1 w1 HO1 HB1)
          go_roundw
          case rel =>
            refine ⟨k + 1, f, acc ++ [giAny], by go_num, by omega, by omega, by simp; omega, ?_, HO1.out, HB1.out⟩
            rw [← HR.out, gIt, if_pos hlt, if_neg HH2.out, if_pos HH.out]
            simp
          case measure => simp [intOf]; omega
          --}B
        · have g63 : (((bt s k : Nat) : Int) == 63) = false := by simp only [beq_eq_false_iff_ne]; omega
          by_cases h92 : bt s k = 92
          · --{C
            have h1 : (((bt s k : Nat) : Int) == 92) = true := by simp only [beq_iff_eq]; omega
            have HH := hide h92
            have HH2 := hide h42
            have HH3 := hide h63
            clear h92 h63 h42
            by_cases hl : k + 1 < s.size
            · have HL := hide hl
              go_wp2_with fail
              refine (single_any (bt s (k + 1)) _ (by exact bt_lt s _)).mono ?_
              rintro e w1 ⟨rfl, hb1⟩
              simp only [giAgg]
              have HO2 := hide (own_below HO.out hb1)
              have HB2 := hide (below_up HB.out hb1 HB.out.size)
              clear hb1
              go_wp2_with (at_builtin; go_must (refine wpList_appI w1 w ?_ (.tmp 61) (.tmp 64) ?_ u3 acc ?_ HO2 HB2 ?_ (giOne (bt s (k + 1))) ?_ ?_ ?_ ?_); exact rfl; exact rfl; exact rfl; exact gi_news _ _ _ _ _; exact rfl; omega; intro v1 w1 HO1 HB1)
              go_roundw
              case rel =>
                refine ⟨k + 2, f, acc ++ [giOne (bt s (k + 1))], by go_num, by omega, by omega, by simp; omega, ?_, HO1.out, HB1.out⟩
                rw [← HR.out, gIt, if_pos hlt, if_neg HH2.out, if_neg HH3.out, if_pos HH.out, if_pos HL.out]
                simp
              case measure => simp [intOf]; omega
            · have HL := hide hl
              go_wp2_with fail
              refine (single_any (bt s k) _ (by exact bt_lt s _)).mono ?_
              rintro e w1 ⟨rfl, hb1⟩
              simp only [giAgg]
              have HO2 := hide (own_below HO.out hb1)
              have HB2 := hide (below_up HB.out hb1 HB.out.size)
              clear hb1
              go_wp2_with (at_builtin; go_must (refine wpList_appI w1 w ?_ (.tmp 61) (.tmp 64) ?_ u3 acc ?_ HO2 HB2 ?_ (giOne (bt s k)) ?_ ?_ ?_ ?_); exact rfl; exact rfl; exact rfl; exact gi_news _ _ _ _ _; exact rfl; omega; intro v1 w1 HO1 HB1)
              go_roundw
              case rel =>
                refine ⟨k + 1, f, acc ++ [giOne (bt s k)], by go_num, by omega, by omega, by simp; omega, ?_, HO1.out, HB1.out⟩
                rw [← HR.out, gIt, if_pos hlt, if_neg HH2.out, if_neg HH3.out, if_pos HH.out, if_neg HL.out, HH.out]
                simp
              case measure => simp [intOf]; omega
            --}C
          · have g92 : (((bt s k : Nat) : Int) == 92) = false := by simp only [beq_eq_false_iff_ne]; omega
            by_cases h91 : bt s k = 91
            · --{D
              have h1 : (((bt s k : Nat) : Int) == 91) = true := by simp only [beq_iff_eq]; omega
              have HH := hide h91
              have HH2 := hide h42
              have HH3 := hide h63
              have HH4 := hide h92
              clear h91 h92 h63 h42
              go_wp2_with fail
              refine (bracket_any s (k + 1) _ hs (by omega)).mono ?_
              rintro e w1 ⟨rfl, hb1⟩
              have HO2 := hide (own_below HO.out hb1)
              have HB2 := hide (below_up HB.out hb1 HB.out.size)
              clear hb1
              rcases hx : gBracket (bt s) s.size (k + 1) with _ | x
              · simp only [brVal, giAgg]
                have HX := hide hx
                clear hx
                have HL := HX
                go_wp2_with fail
                refine (single_any (bt s k) _ (by exact bt_lt s _)).mono ?_
                rintro e w2 ⟨rfl, hb1⟩
                simp only [giAgg]
                have HO3 := hide (own_below (HO2.out.alloc _) hb1)
                have HB3 := hide (below_up (HB2.out.alloc HB2.out.size _) hb1 (by have := HB2.out.size; simp; omega))
                clear hb1
                go_wp2_with (at_builtin; go_must (refine wpList_appI w2 w ?_ (.tmp 61) (.tmp 64) ?_ u3 acc ?_ HO3 HB3 ?_ (giOne (bt s k)) ?_ ?_ ?_ ?_); exact rfl; exact rfl; exact rfl; exact gi_news _ _ _ _ _; exact rfl; omega; intro v1 w1 HO1 HB1)
                go_roundw
                case rel =>
                  refine ⟨k + 1, f, acc ++ [giOne (bt s k)], by go_num, by omega, by omega, by simp; omega, ?_, HO1.out, HB1.out⟩
                  rw [← HR.out, gIt, if_pos hlt, if_neg HH2.out, if_neg HH3.out, if_neg HH4.out, if_pos HH.out, HX.out, HH.out]
                  simp
                case measure => simp [intOf]; omega
              · simp only [brVal, giAgg]
                have HX := hide hx
                have hxl := gBracket_le hx
                obtain ⟨hx1, hx2⟩ := hxl
                clear hx
                have HO3 := hide (HO2.out.alloc (.cells #[.bool false, .int .u64 (wd x.1 0), .int .u64 (wd x.1 1), .int .u64 (wd x.1 2), .int .u64 (wd x.1 3), .bool false, .int .u8 (0 : Nat), .bool true] 69))
                have HB3 := hide (HB2.out.alloc HB2.out.size (.cells #[.bool false, .int .u64 (wd x.1 0), .int .u64 (wd x.1 1), .int .u64 (wd x.1 2), .int .u64 (wd x.1 3), .bool false, .int .u8 (0 : Nat), .bool true] 69))
                clear HO2 HB2
                go_wp2_with (at_builtin; go_must (refine wpList_appI _ w ?_ (.tmp 56) (.tmp 58) ?_ u3 acc ?_ HO3 HB3 ?_ (giSet x.1) ?_ ?_ ?_ ?_); exact rfl; exact rfl; exact rfl; exact gi_news _ _ _ _ _; exact slice_new _ _; omega; intro v1 w1 HO1 HB1)
                go_roundw
                case rel =>
                  refine ⟨x.2, f, acc ++ [giSet x.1], rfl, by omega, by omega, by simp; omega, ?_, HO1.out, HB1.out⟩
                  rw [← HR.out, gIt, if_pos hlt, if_neg HH2.out, if_neg HH3.out, if_neg HH4.out, if_pos HH.out, HX.out]
                  simp
                case measure => simp [intOf]; omega
              --}D
            · --{E
              have g91 : (((bt s k : Nat) : Int) == 91) = false := by simp only [beq_eq_false_iff_ne]; omega
              have HH2 := hide h42
              have HH3 := hide h63
              have HH4 := hide h92
              have HH := hide h91
              clear h91 h92 h63 h42
              go_wp2_with fail
              refine (single_any (bt s k) _ (by exact bt_lt s _)).mono ?_
              rintro e w1 ⟨rfl, hb1⟩
              simp only [giAgg]
              have HO2 := hide (own_below HO.out hb1)
              have HB2 := hide (below_up HB.out hb1 HB.out.size)
              clear hb1
              go_wp2_with (at_builtin; go_must (refine wpList_appI w1 w ?_ (.tmp 61) (.tmp 64) ?_ u3 acc ?_ HO2 HB2 ?_ (giOne (bt s k)) ?_ ?_ ?_ ?_); exact rfl; exact rfl; exact rfl; exact gi_news _ _ _ _ _; exact rfl; omega; intro v1 w1 HO1 HB1)
              go_roundw
              case rel =>
                refine ⟨k + 1, f, acc ++ [giOne (bt s k)], by go_num, by omega, by omega, by simp; omega, ?_, HO1.out, HB1.out⟩
                rw [← HR.out, gIt, if_pos hlt, if_neg HH2.out, if_neg HH3.out, if_neg HH4.out, if_neg HH.out]
                simp
              case measure => simp [intOf]; omega
              --}E
    · go_wp2
      go_ret
      have hRn : acc = gItems (bt s) s.size := by rw [← HR.out]; cases f <;> simp [gIt, hlt]
      subst hRn
      exact ⟨_, rfl, HO.out, HB.out⟩
end Go.Proofs.Ythlboecjlelemaa
