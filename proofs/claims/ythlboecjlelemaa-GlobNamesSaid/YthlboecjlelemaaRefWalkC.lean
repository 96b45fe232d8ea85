/- Walk of the reference's items. -/
import Derived.Test.YthlboecjlelemaaRefWalkB
namespace Go.Proofs.Ythlboecjlelemaa
open Go.RowKit Go.Deep Qm.Glob
attribute [local go_sem] bt_eq

def riVals (x : RI) (vlo vhi : Value) : List Value := [.int .i64 x.kind, .int .u8 x.c, .bool x.nt, vlo, vhi]
/-- the cells of a slice of the reference's items, the slices in them readable -/
def RIs (w : World) (base : Nat) : List RI → List Value → Prop
  | [], xs => xs = []
  | x :: l, xs => ∃ vlo vhi rest, xs = riVals x vlo vhi ++ rest ∧ OwnB w base vlo x.lo ∧ OwnB w base vhi x.hi ∧ RIs w base l rest
theorem RIs_keep {w w' : World} {base : Nat} (h : ∀ v m, OwnB w base v m → OwnB w' base v m) : ∀ (l : List RI) (xs : List Value), RIs w base l xs → RIs w' base l xs
  | [], _, hx => hx
  | _ :: l, _, ⟨vlo, vhi, rest, e, h1, h2, h3⟩ => ⟨vlo, vhi, rest, e, h _ _ h1, h _ _ h2, RIs_keep h l rest h3⟩
theorem RIs_snoc {w : World} {base : Nat} {x : RI} {vlo vhi : Value} (h1 : OwnB w base vlo x.lo) (h2 : OwnB w base vhi x.hi) : ∀ (l : List RI) (xs : List Value), RIs w base l xs → RIs w base (l ++ [x]) (xs ++ riVals x vlo vhi)
  | [], xs, hx => ⟨vlo, vhi, [], by rw [show xs = [] from hx]; rfl, h1, h2, rfl⟩
  | _ :: l, _, ⟨a, b, rest, e, g1, g2, g3⟩ => ⟨a, b, rest ++ riVals x vlo vhi, by rw [e, List.append_assoc], g1, g2, RIs_snoc h1 h2 l rest g3⟩
theorem RIs_get {w : World} {base : Nat} : ∀ (l : List RI) (xs : List Value), RIs w base l xs → ∀ k x, l[k]? = some x → ∃ vlo vhi, OwnB w base vlo x.lo ∧ OwnB w base vhi x.hi ∧ ∀ j u, (riVals x vlo vhi)[j]? = some u → xs[k * 5 + j]? = some u
  | [], _, _, k, x, h => by simp at h
  | y :: l, xs, ⟨a, b, rest, e, g1, g2, g3⟩, k, x, h => by
    subst e
    cases k with
    | zero =>
      simp at h
      subst h
      refine ⟨a, b, g1, g2, fun j u hu => ?_⟩
      have hj := (List.getElem?_eq_some_iff.1 hu).1
      rw [List.getElem?_append_left (by simpa [riVals] using hj)]
      simpa using hu
    | succ k =>
      obtain ⟨c, d, q1, q2, q3⟩ := RIs_get l rest g3 k x (by simpa using h)
      refine ⟨c, d, q1, q2, fun j u hu => ?_⟩
      rw [List.getElem?_append_right (by simp [riVals]; omega), show (k + 1) * 5 + j - (riVals y a b).length = k * 5 + j from by simp [riVals]; omega]
      exact q3 j u hu
theorem info51 : (Try.prog.info? 72).map (fun i => (i.zero, i.size, i.bytes)) = some (some (.agg #[.int .i64 0, .int .u8 0, .bool false, .slice none 0 0, .slice none 0 0]), 5, 64) := by kernel_rfl
theorem wpList_appR {ops : Array Oper} {rest : List Oper} {o : Oper} {a : Act} {Q : Exit → Act → World → Prop} (wr w0 : World) (hgd : o.guard = none) (s x : Operand)
    (ho : o.op = .call { callee := .builtin .append, args := #[s, x], argTypes := #[62, 62] }) (v : Value) (acc : List RI) (xs : List Value) (hs : a.eval s = v)
    (hown : wr.ownsRow w0.heap.size 72 5 v acc.length xs) (hris : RIs wr w0.heap.size acc xs) (hB : Below w0.heap.size w0 wr) (it : RI) (vlo vhi : Value)
    (hlo : OwnB wr w0.heap.size vlo it.lo) (hhi : OwnB wr w0.heap.size vhi it.hi)
    (hx : a.eval x = .slice (some ⟨wr.heap.size, 0, none⟩) 1 1) (hl : acc.length ≤ 1000)
    (h : ∀ v' w', w'.ownsRow w0.heap.size 72 5 v' (acc ++ [it]).length (xs ++ riVals it vlo vhi) → RIs w' w0.heap.size (acc ++ [it]) (xs ++ riVals it vlo vhi) → Below w0.heap.size w0 w' → wpList Try.prog ops Q rest (a.put o.dst v') w') :
    wpList Try.prog ops Q (o :: rest) a (wr.alloc (.cells #[.int .i64 it.kind, .int .u8 it.c, .bool it.nt, vlo, vhi] 72)) := by
  obtain ⟨i0, hi, hz0, hz1, hz2⟩ := info_parts info51
  have h1 : ∀ u ∈ (#[.int .i64 it.kind, .int .u8 it.c, .bool it.nt, vlo, vhi] : Array Value).toList, u.oneCell' = true := by
    obtain ⟨A, c, rfl⟩ := own_slice hlo
    obtain ⟨B, d, rfl⟩ := own_slice hhi
    intro u hu
    simp only [List.mem_cons, List.not_mem_nil, or_false] at hu
    rcases hu with rfl | rfl | rfl | rfl | rfl <;> rfl
  refine wpList_app1at wr hgd s x 62 ho w0.heap.size 72 i0 _ 5 64 Try.underlying62 hi hz0 hz1 hz2 rfl (by omega) v acc.length xs hs hown _ 1 hx rfl h1
    (by simp only [maxLen]; omega) (by omega) hB.size ?_
  intro v' w' ho' hg hat
  have hk : ∀ u m, OwnB wr w0.heap.size u m → OwnB w' w0.heap.size u m := fun u m hu => World.ownsRow.kept (World.ownsRow.alloc hu _) hg (own_own_ne hu hown (by decide))
  refine h v' w' ?_ (RIs_snoc (hk _ _ hlo) (hk _ _ hhi) _ _ (RIs_keep hk _ _ hris)) ?_
  · rw [List.length_append]; exact ho'
  · exact (hB.alloc hB.size _).grown hg (by have := hB.size; simp; omega) (fun k hk => (hown.lt k hk).1)
theorem own_base {w : World} {base base' : Nat} {v : Value} {l : List Nat} (h : OwnB w base' v l) (hb : base ≤ base') : OwnB w base v l :=
  ⟨h.1, h.2.imp id fun ⟨g, cap, cur, e, hg, r⟩ => ⟨g, cap, cur, e, Nat.le_trans hb hg, r⟩⟩
theorem slice_new' (w : World) (o : Obj) : Value.slice (some ⟨w.heap.size + 1, 0, none⟩) 1 1 = Value.slice (some ⟨(w.alloc o).heap.size, 0, none⟩) 1 1 := by simp
/-- what the loop of items knows -/
structure RItRel (s : ByteArray) (w : World) (k f : Nat) (acc : List RI) (xs : List Value) (v3 : Value) (wr : World) : Prop where
  hk : k ≤ s.size
  hf : s.size < f + k
  hal : acc.length ≤ k
  hR : acc ++ rIt (bt s) s.size f k = rItems (bt s) s.size
  own : wr.ownsRow w.heap.size 72 5 v3 acc.length xs
  ris : RIs wr w.heap.size acc xs
  hb : Below w.heap.size w wr
theorem RItRel.below {s : ByteArray} {w wr w1 : World} {k f : Nat} {acc : List RI} {xs : List Value} {v3 : Value} (h : RItRel s w k f acc xs v3 wr) (hb : Below wr.heap.size wr w1) : RItRel s w k f acc xs v3 w1 :=
  ⟨h.hk, h.hf, h.hal, h.hR, own_below h.own hb, RIs_keep (fun _ _ hu => own_below hu hb) _ _ h.ris, below_up h.hb hb h.hb.size⟩

set_option maxRecDepth 100000 in
set_option maxHeartbeats 1000000 in
theorem ritems_any (s : ByteArray) (w : World) (hs : s.size ≤ 1000) :
    Calls Try.prog 48 #[.string s] w fun e w' => ∃ v xs, e = .returned v ∧ w'.ownsRow w.heap.size 72 5 v (rItems (bt s) s.size).length xs ∧ RIs w' w.heap.size (rItems (bt s) s.size) xs ∧ Below w.heap.size w w' := by
  go_enter Try.func48, Try.ntmps48
  go_wp2
  go_loopw [3, 4] (fun v3 v4 wr => ∃ (k f : Nat) (acc : List RI) (xs : List Value), v4 = .int .i64 k ∧ RItRel s w k f acc xs v3 wr) (fun _ v4 _ => s.size - (intOf v4).toNat)
  case atStart => exact ⟨0, s.size + 1, [], [], rfl, by omega, by omega, by simp, rfl, World.ownsRow_nil _ _ _ _, rfl, Below.refl _ _⟩
  case round =>
    obtain ⟨k, f, acc, xs, rfl, hr⟩ := hrel
    have hk := hr.hk
    have hf := hr.hf
    have hal := hr.hal
    have HR := hide hr
    clear hr
    by_cases hlt : k < s.size
    · obtain ⟨f, rfl⟩ : ∃ f', f = f' + 1 := ⟨f - 1, by omega⟩
      by_cases h42 : bt s k = 42
      · skip
        --{A
        have h1 : (((bt s k : Nat) : Int) == 42) = true := by simp only [beq_iff_eq]; omega
        have HH := hide h42
        clear h42
        go_wp2_with (at_builtin; refine wpList_appR wr w ?_ (.tmp 19) (.tmp 21) ?_ u3 acc xs ?_ HR.out.own HR.out.ris HR.out.hb rStar (.slice none 0 0) (.slice none 0 0) ?_ ?_ ?_ ?_ ?_; exact rfl; exact rfl; exact rfl; exact World.ownsRow_nil _ _ _ _; exact World.ownsRow_nil _ _ _ _; exact rfl; omega; intro v1 w1 ho1 hr1 hb1)
        go_roundw
        case rel =>
          refine ⟨k + 1, f, acc ++ [rStar], _, by go_num, by omega, by omega, by simp; omega, ?_, ho1, hr1, hb1⟩
          rw [← HR.out.hR, rIt, if_pos hlt, if_pos HH.out]
          simp
        case measure => simp [intOf]; omega
        --}A
      · have g42 : (((bt s k : Nat) : Int) == 42) = false := by simp only [beq_eq_false_iff_ne]; omega
        by_cases h63 : bt s k = 63
        · skip
          --{B
          have h1 : (((bt s k : Nat) : Int) == 63) = true := by simp only [beq_iff_eq]; omega
          have HH := hide h63
          have HH2 := hide h42
          clear h63 h42
          go_wp2_with (at_builtin; refine wpList_appR wr w ?_ (.tmp 27) (.tmp 29) ?_ u3 acc xs ?_ HR.out.own HR.out.ris HR.out.hb rAny (.slice none 0 0) (.slice none 0 0) ?_ ?_ ?_ ?_ ?_; exact rfl; exact rfl; exact rfl; exact World.ownsRow_nil _ _ _ _; exact World.ownsRow_nil _ _ _ _; exact rfl; omega; intro v1 w1 ho1 hr1 hb1)
          go_roundw
          case rel =>
            refine ⟨k + 1, f, acc ++ [rAny], _, by go_num, by omega, by omega, by simp; omega, ?_, ho1, hr1, hb1⟩
            rw [← HR.out.hR, rIt, if_pos hlt, if_neg HH2.out, if_pos HH.out]
            simp
          case measure => simp [intOf]; omega
          --}B
        · have g63 : (((bt s k : Nat) : Int) == 63) = false := by simp only [beq_eq_false_iff_ne]; omega
          by_cases h91 : bt s k = 91
          · skip
            --{C
            have h1 : (((bt s k : Nat) : Int) == 91) = true := by simp only [beq_iff_eq]; omega
            have HH := hide h91
            have HH2 := hide h42
            have HH3 := hide h63
            clear h91 h63 h42
            go_wp2_with fail
            refine (rset_any s (k + 1) _ hs (by omega)).mono ?_
            rintro e w1 ⟨vlo, vhi, rfl, hlo, hhi, hb1⟩
            obtain ⟨Al, cl, rfl⟩ := own_slice hlo
            obtain ⟨Ah, ch, rfl⟩ := own_slice hhi
            have HR1 := hide (HR.out.below hb1)
            generalize hlo2 : (rSetOf (bt s) s.size (k + 1)).1 = lo at hlo ⊢
            generalize hhi2 : (rSetOf (bt s) s.size (k + 1)).2.1 = hi at hhi ⊢
            generalize hj2 : (rSetOf (bt s) s.size (k + 1)).2.2 = j
            have HLO := hide (own_base hlo HR.out.hb.size)
            have HHI := hide (own_base hhi HR.out.hb.size)
            have HE1 := hide hlo2
            have HE2 := hide hhi2
            have HE3 := hide hj2
            clear hlo hhi hlo2 hhi2 hj2 hb1
            by_cases hset : j < s.size
            · generalize hd : decide (j < s.size) = d
              obtain rfl : d = true := by rw [← hd]; simp [hset]
              have HM1 := hide (HR1.out.own.alloc (.cells #[.int .i64 (3 : Nat), .int .u8 (0 : Nat), .bool (brNt (bt s) s.size (k + 1)), .slice Al lo.length cl, .slice Ah hi.length ch] 72))
              have HM2 := hide (RIs_keep (w' := w1.alloc (.cells #[.int .i64 (3 : Nat), .int .u8 (0 : Nat), .bool (brNt (bt s) s.size (k + 1)), .slice Al lo.length cl, .slice Ah hi.length ch] 72)) (fun _ _ hu => World.ownsRow.alloc hu _) _ _ HR1.out.ris)
              have HM3 := hide (HR1.out.hb.alloc HR1.out.hb.size (.cells #[.int .i64 (3 : Nat), .int .u8 (0 : Nat), .bool (brNt (bt s) s.size (k + 1)), .slice Al lo.length cl, .slice Ah hi.length ch] 72))
              have HM4 := hide (World.ownsRow.alloc HLO.out (.cells #[.int .i64 (3 : Nat), .int .u8 (0 : Nat), .bool (brNt (bt s) s.size (k + 1)), .slice Al lo.length cl, .slice Ah hi.length ch] 72))
              have HM5 := hide (World.ownsRow.alloc HHI.out (.cells #[.int .i64 (3 : Nat), .int .u8 (0 : Nat), .bool (brNt (bt s) s.size (k + 1)), .slice Al lo.length cl, .slice Ah hi.length ch] 72))
              clear hd
              go_wp2_with (at_builtin; refine wpList_appR _ w ?_ (.tmp 44) (.tmp 46) ?_ u3 acc xs ?_ HM1.out HM2.out HM3.out ⟨3, 0, brNt (bt s) s.size (k + 1), lo, hi⟩ (.slice Al lo.length cl) (.slice Ah hi.length ch) ?_ ?_ ?_ ?_ ?_; exact rfl; exact rfl; exact rfl; exact HM4.out; exact HM5.out; exact slice_new' _ _; omega; intro v1 w2 ho1 hr1 hb1)
              go_roundw
              case rel =>
                refine ⟨j + 1, f, acc ++ [⟨3, 0, brNt (bt s) s.size (k + 1), lo, hi⟩], _, by go_num, by omega, ?_, ?_, ?_, ho1, hr1, hb1⟩
                · have := rSetOf_ge (bt s) s.size (k + 1); rw [HE3.out] at this; omega
                · have := rSetOf_ge (bt s) s.size (k + 1); rw [HE3.out] at this; simp; omega
                · rw [← HR.out.hR, rIt, if_pos hlt, if_neg HH2.out, if_neg HH3.out, if_pos ⟨HH.out, by rw [HE3.out]; exact hset⟩, HE1.out, HE2.out, HE3.out]
                  simp
              case measure =>
                have := rSetOf_ge (bt s) s.size (k + 1); rw [HE3.out] at this
                simp [intOf]; omega
            · generalize hd : decide (j < s.size) = d
              obtain rfl : d = false := by rw [← hd]; simp [hset]
              clear hd
              have HM1 := hide (HR1.out.own.alloc (.cells #[.int .i64 (3 : Nat), .int .u8 (0 : Nat), .bool (brNt (bt s) s.size (k + 1)), .slice Al lo.length cl, .slice Ah hi.length ch] 72))
              have HM2 := hide (RIs_keep (w' := w1.alloc (.cells #[.int .i64 (3 : Nat), .int .u8 (0 : Nat), .bool (brNt (bt s) s.size (k + 1)), .slice Al lo.length cl, .slice Ah hi.length ch] 72)) (fun _ _ hu => World.ownsRow.alloc hu _) _ _ HR1.out.ris)
              have HM3 := hide (HR1.out.hb.alloc HR1.out.hb.size (.cells #[.int .i64 (3 : Nat), .int .u8 (0 : Nat), .bool (brNt (bt s) s.size (k + 1)), .slice Al lo.length cl, .slice Ah hi.length ch] 72))
              go_wp2_with fail
              refine (rone_any s k _ hs hlt).mono ?_
              rintro e w2 ⟨rfl, rfl⟩
              obtain ⟨hm1, hm2, hm3⟩ := rOne_le (t := bt s) hlt
              generalize ha : (rOne (bt s) s.size k).1 = a
              generalize hmm : (rOne (bt s) s.size k).2 = m at hm1 hm2 hm3
              have HA := hide ha
              have HMM := hide hmm
              clear ha hmm
              go_wp2_with (at_builtin; refine wpList_appR _ w ?_ (.tmp 55) (.tmp 58) ?_ u3 acc xs ?_ HM1.out HM2.out HM3.out (rByte a) (.slice none 0 0) (.slice none 0 0) ?_ ?_ ?_ ?_ ?_; exact rfl; exact rfl; exact rfl; exact World.ownsRow_nil _ _ _ _; exact World.ownsRow_nil _ _ _ _; exact slice_new' _ _; omega; intro v1 w2 ho1 hr1 hb1)
              go_roundw
              case rel =>
                refine ⟨k + m, f, acc ++ [rByte a], _, by go_num, by omega, by omega, by simp; omega, ?_, ho1, hr1, hb1⟩
                rw [← HR.out.hR, rIt, if_pos hlt, if_neg HH2.out, if_neg HH3.out, if_neg (fun h => hset (by rw [← HE3.out]; exact h.2)), HA.out, HMM.out]
                simp
              case measure => simp [intOf]; omega
            --}C
          · skip
            --{D
            have g91 : (((bt s k : Nat) : Int) == 91) = false := by simp only [beq_eq_false_iff_ne]; omega
            have HH2 := hide h42
            have HH3 := hide h63
            have HH := hide h91
            clear h91 h63 h42
            go_wp2_with fail
            refine (rone_any s k _ hs hlt).mono ?_
            rintro e w1 ⟨rfl, rfl⟩
            obtain ⟨hm1, hm2, hm3⟩ := rOne_le (t := bt s) hlt
            generalize ha : (rOne (bt s) s.size k).1 = a
            generalize hmm : (rOne (bt s) s.size k).2 = m at hm1 hm2 hm3
            have HA := hide ha
            have HMM := hide hmm
            clear ha hmm
            go_wp2_with (at_builtin; refine wpList_appR wr w ?_ (.tmp 55) (.tmp 58) ?_ u3 acc xs ?_ HR.out.own HR.out.ris HR.out.hb (rByte a) (.slice none 0 0) (.slice none 0 0) ?_ ?_ ?_ ?_ ?_; exact rfl; exact rfl; exact rfl; exact World.ownsRow_nil _ _ _ _; exact World.ownsRow_nil _ _ _ _; exact rfl; omega; intro v1 w1 ho1 hr1 hb1)
            go_roundw
            case rel =>
              refine ⟨k + m, f, acc ++ [rByte a], _, by go_num, by omega, by omega, by simp; omega, ?_, ho1, hr1, hb1⟩
              rw [← HR.out.hR, rIt, if_pos hlt, if_neg HH2.out, if_neg HH3.out, if_neg (fun h => HH.out h.1), HA.out, HMM.out]
              simp
            case measure => simp [intOf]; omega
            --}D
    · go_wp2
      go_ret
      have hRn : acc = rItems (bt s) s.size := by rw [← HR.out.hR]; cases f <;> simp [rIt, hlt]
      subst hRn
      exact ⟨_, _, rfl, HR.out.own, HR.out.ris, HR.out.hb⟩
end Go.Proofs.Ythlboecjlelemaa
