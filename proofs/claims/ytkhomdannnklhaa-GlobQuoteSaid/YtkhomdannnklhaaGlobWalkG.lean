/- Walks of package glob's Plain and of the reference's. -/
import Derived.Test.YtkhomdannnklhaaGlobWalkF
import Derived.Test.YtkhomdannnklhaaRefWalkF
namespace Go.Proofs.Ytkhomdannnklhaa
open Go.RowKit Go.Deep Qm.Glob
attribute [local go_sem] bt_eq

/-- a text out of its bytes -/
def sb (l : List Nat) : ByteArray := strOfNums (l.map fun n : Nat => (n : Int))
theorem sb_size (l : List Nat) : (sb l).size = l.length := by simp [sb, strOfNums_size]
theorem conv_own {W : World} {base : Nat} {v : Value} {l : List Nat} (h : OwnB W base v l) : (convert 25 9 v).run Try.prog W = .ok (.string (sb l)) W := by
  rcases h.2 with ⟨rfl, hn⟩ | ⟨g, cap, cur, rfl, _, hh, _⟩
  · have hl : l = [] := List.eq_nil_of_length_eq_zero hn
    subst hl
    exact run_convert_bytes_nil W 25 5 Try.underlying25 Try.underlying5 0 0 _ Try.underlying9
  · refine run_convert_bytes_arg W 25 5 Try.underlying25 Try.underlying5 g 0 l.length cap (l.map fun n : Nat => (n : Int)) (by simp) (fun i hi => ?_) _ Try.underlying9
    rw [Nat.zero_add, World.ownsRow.cellAt h i (by omega)]
    simp [nbytes, List.getD_eq_getElem?_getD, hi]
theorem below_gb {B : Nat} {wr w' : World} {o : Obj} {r : Option Nat} (hg : (wr.alloc o).grownBy w' r) (hr : ∀ k, r = some k → B ≤ k) (hB : B ≤ wr.heap.size) : Below B wr w' :=
  ((Below.refl B wr).alloc hB o).grown hg (by simp; omega) hr
def plAll (l : List GI) : Bool := l.all GI.plain
def plBytes (l : List GI) : List Nat := l.map GI.c
/-- what Plain answers -/
def plVal (ok : Bool) (l : List Nat) : Value := if ok then .tuple #[.string (sb l), .bool true] else .tuple #[.string ⟨#[]⟩, .bool false]
theorem plAll_no {l : List GI} {j : Nat} {x : GI} (hx : l[j]? = some x) (h : x.plain = false) : plAll l = false := by
  simp only [plAll, List.all_eq_false]
  exact ⟨x, List.mem_of_getElem? hx, by simp [h]⟩

set_option maxRecDepth 100000 in
set_option maxHeartbeats 1000000 in
theorem plain_any (p : ByteArray) (w : World) (hp : p.size ≤ 1000) :
    Calls Try.prog 16 #[.string p] w fun e w' => e = .returned (plVal (plAll (gItems (bt p) p.size)) (plBytes (gItems (bt p) p.size))) ∧ Below w.heap.size w w' := by
  go_enter Try.func16, Try.ntmps16
  go_wp2_with fail
  refine (items_any p w hp).mono ?_
  rintro e w1 ⟨v, rfl, hown, hb⟩
  have hlen : (gItems (bt p) p.size).length ≤ 1000 := Nat.le_trans (gItems_len _ _) hp
  generalize hl : gItems (bt p) p.size = l at hown hlen
  have HL := hide hl
  clear hl
  obtain ⟨A, c, rfl, hat⟩ := items_of_own hown
  have HAT := hide hat
  have HB := hide hb
  clear hat hb hown
  go_wp2_with fail
  go_loopw [4, 10] (fun v4 v10 wr => ∃ j : Nat, v10 = .int .i64 j ∧ j ≤ l.length ∧ OwnB wr w1.heap.size v4 ((plBytes l).take j) ∧ Hid (∀ k x, k < j → l[k]? = some x → x.plain = true) ∧ Below w1.heap.size w1 wr) (fun _ v10 _ => l.length - (intOf v10).toNat)
  case atStart => exact ⟨0, rfl, by omega, World.ownsRow_nil _ _ _ _, fun k x hk => by omega, Below.refl _ _⟩
  case round =>
    obtain ⟨j, rfl, hj, ho, HP, hb⟩ := hrel
    obtain ⟨Ao, co, rfl⟩ := own_sliceN (n := j) ho (by simp [plBytes]; omega)
    have HO := hide ho
    have HW := hide hb
    clear ho hb
    by_cases hlt : j < l.length
    · obtain ⟨x, hx⟩ : ∃ x, l[j]? = some x := ⟨l[j], List.getElem?_eq_getElem hlt⟩
      obtain ⟨b0, S, b1, cc, b2⟩ := x
      obtain ⟨g, rfl, hg, c0, c1, c2, c3, c4, c5, c6, c7⟩ := items_cells HAT.out HW.out hx
      have HX := hide hx
      clear hx
      cases b1 with
      | false =>
        go_wp2
        go_ret2
        refine ⟨?_, below_up HB.out (HW.out.alloc HW.out.size _) HB.out.size⟩
        rw [HL.out, plAll_no HX.out rfl]
        rfl
      | true =>
        have HO1 := hide (World.ownsRow.alloc HO.out (.cells #[.bool b0, .int .u64 (wd S 0), .int .u64 (wd S 1), .int .u64 (wd S 2), .int .u64 (wd S 3), .bool true, .int .u8 cc, .bool b2] 49))
        have HW1 := hide (HW.out.alloc HW.out.size (.cells #[.bool b0, .int .u64 (wd S 0), .int .u64 (wd S 1), .int .u64 (wd S 2), .int .u64 (wd S 3), .bool true, .int .u8 cc, .bool b2] 49))
        have hlj : ((plBytes l).take j).length ≤ 1000 := by simp [plBytes]; omega
        go_wp2_with (at_builtin; refine wpList_appB _ ?_ (.tmp 17) (.tmp 20) ?_ w1.heap.size (.slice Ao j co) ((plBytes l).take j) ?_ HO1.out cc ?_ ?_ ?_ ?_; exact rfl; exact rfl; exact rfl; exact slice_new' _ _; omega; exact HW1.out.size; intro v1 w2 ho1 hg1 hb1; have HB2 := hide (HW1.out.trans (below_gb hg1 (fun k hk => (HO1.out.lt k hk).1) HW1.out.size)); have HO2 := hide ho1; clear ho1 hg1 hb1)
        go_roundw
        case rel =>
          have hx := HX.out
          refine ⟨j + 1, by go_num, by omega, ?_, fun k x hk hx2 => ?_, HB2.out⟩
          · rw [take_snoc' (a := cc) (by simp [plBytes, hx])]; exact HO2.out
          · rcases Nat.lt_or_ge k j with h | h
            · exact HP.out k x h hx2
            · obtain rfl : k = j := by omega
              rw [hx] at hx2; injection hx2 with hx2; subst hx2; rfl
        case measure => simp [intOf]; omega
    · obtain rfl : j = l.length := by omega
      have hcv := conv_own HO.out
      rw [show (plBytes l).take l.length = plBytes l from by rw [List.take_of_length_le]; simp [plBytes]] at hcv
      go_wp2
      go_ret2
      refine ⟨?_, below_up HB.out HW.out HB.out.size⟩
      have hall : plAll l = true := by
        simp only [plAll, List.all_eq_true]
        intro x hx
        obtain ⟨k, hk⟩ := List.mem_iff_getElem?.1 hx
        exact HP.out k x (List.getElem?_eq_some_iff.1 hk).1 hk
      rw [HL.out, hall]
      rfl
def rAll (l : List RI) : Bool := l.all fun x => x.kind == 0
def rBytes (l : List RI) : List Nat := l.map RI.c
theorem rAll_no {l : List RI} {j : Nat} {x : RI} (hx : l[j]? = some x) (h : x.kind ≠ 0) : rAll l = false := by
  simp only [rAll, List.all_eq_false]
  exact ⟨x, List.mem_of_getElem? hx, by simp [h]⟩

set_option maxRecDepth 100000 in
set_option maxHeartbeats 1000000 in
theorem rplain_any (p : ByteArray) (w : World) (hp : p.size ≤ 1000) :
    Calls Try.prog 17 #[.string p] w fun e w' => e = .returned (plVal (rAll (rItems (bt p) p.size)) (rBytes (rItems (bt p) p.size))) ∧ Below w.heap.size w w' := by
  go_enter Try.func17, Try.ntmps17
  go_wp2_with fail
  refine (ritems_any p w hp).mono ?_
  rintro e w1 ⟨v, xs, rfl, hown, hris, hb⟩
  have hlen : (rItems (bt p) p.size).length ≤ 1000 := Nat.le_trans (rItems_len _ _) hp
  have hok := fun x hx => rIt_ok (bt p) p.size (p.size + 1) 0 x hx
  generalize hl : rItems (bt p) p.size = l at hown hlen hris
  rw [show rIt (bt p) p.size (p.size + 1) 0 = l from hl] at hok
  have HL := hide hl
  clear hl
  obtain ⟨A, c, rfl, hat⟩ := ritems_of_own hown hris (fun x hx => by have := hok x hx; omega)
  have HAT := hide hat
  have HB := hide hb
  clear hat hb hown hris hok
  go_wp2_with fail
  go_loopw [5, 6] (fun v5 v6 wr => ∃ j : Nat, v6 = .int .i64 j ∧ j ≤ l.length ∧ OwnB wr w1.heap.size v5 ((rBytes l).take j) ∧ Hid (∀ k x, k < j → l[k]? = some x → x.kind = 0) ∧ Below w1.heap.size w1 wr) (fun _ v6 _ => l.length - (intOf v6).toNat)
  case atStart => exact ⟨0, rfl, by omega, World.ownsRow_nil _ _ _ _, fun k x hk => by omega, Below.refl _ _⟩
  case round =>
    obtain ⟨j, rfl, hj, ho, HP, hb⟩ := hrel
    obtain ⟨Ao, co, rfl⟩ := own_sliceN (n := j) ho (by simp [rBytes]; omega)
    have HO := hide ho
    have HW := hide hb
    clear ho hb
    by_cases hlt : j < l.length
    · obtain ⟨x, hx⟩ : ∃ x, l[j]? = some x := ⟨l[j], List.getElem?_eq_getElem hlt⟩
      obtain ⟨g, vlo, vhi, rfl, hg, c0, c1, c2, c3, c4, hlo, hhi, hle, hlb⟩ := ritem_cells HAT.out HW.out hx
      have HX := hide hx
      clear hx c2 c3 c4 hlo hhi hle hlb
      by_cases hk : x.kind = 0
      · have g1 : ((x.kind : Int) != 0) = false := by simp only [bne_eq_false_iff_eq]; omega
        have HK := hide hk
        clear hk
        have hlj : ((rBytes l).take j).length ≤ 1000 := by simp [rBytes]; omega
        go_wp2_with (at_builtin; refine wpList_appB wr ?_ (.tmp 21) (.tmp 27) ?_ w1.heap.size (.slice Ao j co) ((rBytes l).take j) ?_ HO.out x.c ?_ ?_ ?_ ?_; exact rfl; exact rfl; exact rfl; exact rfl; omega; exact HW.out.size; intro v1 w2 ho1 hg1 hb1; have HB2 := hide (HW.out.trans (below_gb hg1 (fun k hk => (HO.out.lt k hk).1) HW.out.size)); have HO2 := hide ho1; clear ho1 hg1 hb1)
        go_roundw
        case rel =>
          have hx := HX.out
          refine ⟨j + 1, by go_num, by omega, ?_, fun k y hk hy => ?_, HB2.out⟩
          · rw [take_snoc' (a := x.c) (by simp [rBytes, hx])]; exact HO2.out
          · rcases Nat.lt_or_ge k j with h | h
            · exact HP.out k y h hy
            · obtain rfl : k = j := by omega
              rw [hx] at hy; injection hy with hy; subst hy; exact HK.out
        case measure => simp [intOf]; omega
      · have g1 : ((x.kind : Int) != 0) = true := by simp only [bne_iff_ne]; omega
        have HK := hide hk
        clear hk
        go_wp2
        go_ret2
        refine ⟨?_, below_up HB.out HW.out HB.out.size⟩
        rw [HL.out, rAll_no HX.out HK.out]
        rfl
    · obtain rfl : j = l.length := by omega
      have hcv := conv_own HO.out
      rw [show (rBytes l).take l.length = rBytes l from by rw [List.take_of_length_le]; simp [rBytes]] at hcv
      go_wp2
      go_ret2
      refine ⟨?_, below_up HB.out HW.out HB.out.size⟩
      have hall : rAll l = true := by
        simp only [rAll, List.all_eq_true]
        intro x hx
        obtain ⟨k, hk⟩ := List.mem_iff_getElem?.1 hx
        simpa using HP.out k x (List.getElem?_eq_some_iff.1 hk).1 hk
      rw [HL.out, hall]
      rfl
end Go.Proofs.Ytkhomdannnklhaa
