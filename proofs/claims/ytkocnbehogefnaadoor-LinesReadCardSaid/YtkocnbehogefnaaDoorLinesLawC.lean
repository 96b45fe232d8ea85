/- The walk of the law LinesParts. -/
import Derived.Test.YtkocnbehogefnaaDoorLinesLawB
import Derived.Test.YtkocnbehogefnaaDoorLinesRefF
import Derived.Test.YtkocnbehogefnaaDoorLinesMathB
import Derived.Deep.RegionHeld3
namespace Go.Proofs.YtkocnbehogefnaaDoor
open Go.RowKit Go.Deep Ln
theorem linesA_len : ∀ (f : Nat) (L : List T), L.length ≤ f → (linesA L).length ≤ L.length
  | 0, L, h => by
    obtain rfl : L = [] := List.length_eq_zero_iff.1 (by omega)
    exact Nat.le_refl _
  | f + 1, [], _ => Nat.le_refl _
  | f + 1, l :: rest, h => by
    simp only [List.length_cons] at h
    have k1 := recF_len rest l.tail l.tail
    have k2 := othF_len rest l
    have i1 := linesA_len f (recF rest l.tail l.tail).2 (by omega)
    have i2 := linesA_len f (othF rest l).2 (by omega)
    rw [linesA_cons]
    split
    · simp only [List.length_cons]; omega
    · rw [List.length_append]
      split <;> simp only [List.length_cons, List.length_nil] <;> omega
theorem spl_lenC (c : UInt8) : ∀ l : T, (spl c l).length ≤ l.length + 1
  | [] => Nat.le_refl _
  | b :: l => by
    have ih := spl_lenC c l
    rw [spl]
    split
    · simp only [List.length_cons]; omega
    · split
      · simp
      · rename_i h t hs
        rw [hs] at ih
        simp only [List.length_cons] at ih ⊢
        omega
theorem readF_len (l : T) : (readF l).1.length ≤ l.length + 1 := by
  have h1 := linesA_len _ (cutL l) (Nat.le_refl _)
  have h2 := spl_lenC 10 l
  have h3 : (cutL l).length ≤ (spl 10 l).length := by
    unfold cutL
    split
    · rw [List.length_dropLast]; omega
    · exact Nat.le_refl _
  unfold readF
  split
  · exact Nat.zero_le _
  · split
    · exact Nat.zero_le _
    · show (linesA (cutL l)).length ≤ _
      omega
theorem wpList_app_runW {P : Program} {ops : Array Oper} {rest : List Oper} {o : Oper} {a : Act} {w : World} {Q : Exit → Act → World → Prop} {t : TypeId} {v xv v' : Value} {w' : World} (hw : Region.wanted o (yielded ops a.tmps) = true) (s x : Operand)
    (ho : o.op = .call { callee := .builtin .append, args := #[s, x], argTypes := #[t, t] }) (hs : a.eval s = v) (hx : a.eval x = xv) (ht : o.type = t)
    (hrun : (Builtin.append_ #[t, t] t #[v, xv]).run P w = .ok v' w') (h : wpList P ops Q rest (a.put o.dst v') w') : wpList P ops Q (o :: rest) a w :=
  wpList_step fun K hK => by
    rw [if_pos hw]
    unfold Oper.wp execOp
    simp only [ho, resolve, invoke, builtin, Sem.run_bind, Sem.run_pure, Result.andThen_ok, List.map_toArray, List.map_cons, List.map_nil, hs, hx, ht, hrun]
    exact hK _ _ h
theorem OwnG.below {α : Type} {enc : α → List Value} {n : Nat} {E : TypeId} {base : Nat} {v : Value} {L : List α} {w w' : World} (h : OwnG enc n E w base v L) (hb : Below w.heap.size w w') : OwnG enc n E w' base v L :=
  (OG.fr enc n E base v L (fun k => v.ownBlock = some k) w w' ⟨h, fun _ e => e⟩ (fun k e => hb.block k (h.lt k e).2) hb.size).1
theorem parts_ends {a : T} (h1 : endsF a [92] = false) (h2 : endsF a [92, 10] = false) : a.getLast? ≠ some 92 ∧ ∀ a', a = a' ++ [10] → a'.getLast? ≠ some 92 := by
  refine ⟨fun h => ?_, fun a' ha h => ?_⟩
  · obtain ⟨y, rfl⟩ := List.getLast?_eq_some_iff.1 h
    rw [endsF, decide_eq_false_iff_not] at h1
    exact h1 ⟨by simp, by simp⟩
  · subst ha
    obtain ⟨y, rfl⟩ := List.getLast?_eq_some_iff.1 h
    rw [endsF, decide_eq_false_iff_not] at h2
    exact h2 ⟨by simp, by simp⟩
set_option maxRecDepth 100000 in
set_option maxHeartbeats 2000000 in
theorem law_linesParts (a b : T) (ha : (bs a).size ≤ maxLen) (hb : (bs b).size ≤ maxLen) (w : World) (hm : MX w) :
    Calls Tryd.prog 3 #[.string (bs a), .string (bs b)] w fun e w' => e = .returned (.bool true) ∧ Below w.heap.size w w' := by
  unfold maxLen at ha hb
  have HM := hide hm
  have HRA := hide (fun W => rlineso_any a W (by omega))
  have HRB := hide (fun W => rlineso_any b W (by omega))
  have za : (bs a).size = a.length := bs_size a
  have zb : (bs b).size = b.length := bs_size b
  clear hm
  have HE1 := hide (fun W (h : a.length ≤ 500) => ends_any a [92] W (by omega) (by decide))
  have HE2 := hide (fun W (h : a.length ≤ 500) => ends_any a [92, 10] W (by omega) (by decide))
  have HPE := hide (fun h1 h2 => parts_ends (a := a) h1 h2)
  generalize endsF a [92] = e1 at HE1 HPE
  generalize endsF a [92, 10] = e2 at HE2 HPE
  obtain ⟨ea, hea⟩ : ∃ n, (readF a).2 = n := ⟨_, rfl⟩
  obtain ⟨eb, heb⟩ : ∃ n, (readF b).2 = n := ⟨_, rfl⟩
  obtain ⟨la, hla⟩ : ∃ n, (readF a).1.length = n := ⟨_, rfl⟩
  obtain ⟨lb, hlb⟩ : ∃ n, (readF b).1.length = n := ⟨_, rfl⟩
  unfold ReadPostO at HRA HRB
  rw [hea, hla] at HRA
  rw [heb, hlb] at HRB
  have HEA := hide hea
  have HEB := hide heb
  have HLA := hide hla
  have HLB := hide hlb
  clear hea heb hla hlb
  go_enter Tryd.func3, Tryd.ntmps3
  go_wp2_with fail
  refine (alive18_any w HM.out).mono ?_
  rintro e w1 ⟨rfl, hb1⟩
  have HB1 := hide hb1
  clear hb1
  go_wp2_with fail
  refine (HRA.out _).mono ?_
  rintro e w2 ⟨⟨A, ca, rfl, hca, hra, hoa⟩, hb2⟩
  have HB2 := hide (below_up HB1.out hb2 HB1.out.size)
  have HXA := hide hra
  have HOA := hide hoa
  have HBA := hide hb2
  clear hb2 hra hoa
  go_wp2_with fail
  refine (HRB.out _).mono ?_
  rintro e w3 ⟨⟨B, cb, rfl, hcb, hrb, hob⟩, hb3⟩
  have HB3 := hide (below_up HB2.out hb3 HB2.out.size)
  have HXB := hide hrb
  have HBB := hide hb3
  clear hb3 hrb hob HRA HRB
  by_cases c1 : 500 < a.length
  · have d1 : (500 : Int) < (a.length : Int) := by omega
    go_wp2
    go_ret
    exact ⟨rfl, HB3.out⟩
  have d1 : (a.length : Int) ≤ 500 := by omega
  by_cases c2 : 500 < b.length
  · have d2 : (500 : Int) < (b.length : Int) := by omega
    go_wp2
    go_ret
    exact ⟨rfl, HB3.out⟩
  have d2 : (b.length : Int) ≤ 500 := by omega
  by_cases c3 : ea = 0
  case neg =>
    have d3 : ((ea : Int) == 0) = false := by simp; omega
    go_wp2
    go_ret
    exact ⟨rfl, HB3.out⟩
  subst c3
  by_cases c4 : eb = 0
  case neg =>
    have d3 : ((eb : Int) == 0) = false := by simp; omega
    go_wp2
    go_ret
    exact ⟨rfl, HB3.out⟩
  subst c4
  go_wp2_with fail
  refine (HE1.out _ (by omega)).mono ?_
  rintro e w' ⟨rfl, rfl⟩
  cases e1 with
  | true =>
    go_wp2
    go_ret
    exact ⟨rfl, HB3.out⟩
  | false =>
  go_wp2_with fail
  refine (HE2.out _ (by omega)).mono ?_
  rintro e w' ⟨rfl, rfl⟩
  cases e2 with
  | true =>
    go_wp2
    go_ret
    exact ⟨rfl, HB3.out⟩
  | false =>
  have hf := HPE.out (by first | rfl | trivial) (by first | rfl | trivial)
  have hp := parts a b (by omega) (by omega) HEA.out HEB.out hf.1 hf.2
  have HM3 := hide (HM.out.below HB3.out)
  have HRC := hide (fun W (h : MX W) => readp_any (a ++ 10 :: b) W h (by rw [bs_size]; simp only [List.length_append, List.length_cons]; omega))
  unfold ReadPostP at HRC
  rw [hp] at HRC
  have hj : (readF a).1.length + (readF b).1.length ≤ 2000 := by
    have := readF_len a
    have := readF_len b
    omega
  obtain ⟨LL, hLL⟩ : ∃ L, (readF a).1 ++ (readF b).1 = L := ⟨_, rfl⟩
  rw [hLL] at HRC
  obtain ⟨nn, hnn⟩ : ∃ n, LL.length = n := ⟨_, rfl⟩
  have hnl : nn ≤ 2000 := by rw [← hnn, ← hLL, List.length_append]; exact hj
  dsimp only at HRC
  rw [hnn] at HRC
  have HLL := hide hLL
  have HNN := hide hnn
  have HJ := hide hj
  clear hLL hnn hj
  clear hp hf
  have hcat : bs a ++ (⟨#[10]⟩ : ByteArray) ++ bs b = bs (a ++ 10 :: b) := by
    rw [show (⟨#[10]⟩ : ByteArray) = bs [10] from rfl, bs_app, bs_app, List.append_assoc]; rfl
  have hone : (⟨#[10]⟩ : ByteArray).size = 1 := rfl
  have hsab : (bs a ++ (⟨#[10]⟩ : ByteArray)).size = a.length + 1 := by rw [ByteArray.size_append, za]; rfl
  go_wp2_with fail
  refine (HRC.out _ HM3.out).mono ?_
  rintro e w4 ⟨⟨C, cc, rfl, hcc, hrc, hfr⟩, hb4⟩
  have HFR := hide hfr
  clear hfr
  have HRCC := hide hrc
  have HB4 := hide (below_up HB3.out hb4 HB3.out.size)
  have HBC := hide hb4
  have HO4 := hide ((HOA.out.below HBB.out).below HBC.out)
  have HXB4 := hide (HXB.out.below HBC.out)
  have hn := HLB.out
  have hj : (readF a).1.length + (readF b).1.length ≤ 1000000 := by
    have := HJ.out
    omega
  obtain ⟨v5, w5, r5, ho5, hg5, _⟩ := run_appG rowL encL_len encL_one (A := B) (c := cb) HO4.out HXB4.out (Nat.le_trans HBA.out.size (Nat.le_trans HBB.out.size HBC.out.size) |> fun h => h) hj
  rw [hn] at r5
  rw [HLL.out] at ho5
  clear hn hj
  obtain ⟨D, cd, rfl, hcd, hrd, _, _⟩ := ho5.slice encL_len
  rw [HNN.out] at r5
  have HRD := hide hrd
  have HC5 := hide (HRCC.out.gb hg5 (fun q e h => by
    have h1 := (HOA.out.lt _ h.symm).2
    have := HBB.out.size
    have := HFR.out q e
    omega))
  have HB5 := hide (HB4.out.trans ((Below.refl w.heap.size w4).grown hg5 HB4.out.size (fun k hk => Nat.le_trans HB1.out.size (HOA.out.lt k hk).1)))
  clear hrc hb4 HRC hrd hg5 ho5
  go_wp2_with fail
  refine (num18_any 0 _).mono ?_
  rintro e w' ⟨rfl, rfl⟩
  go_wp2_with (at_builtin; refine wpList_app_runW ?_ (.tmp 65) (.tmp 66) ?_ ?_ ?_ ?_ r5 ?_; exact rfl; exact rfl; exact rfl; exact rfl; exact rfl)
  have hsl := samel_any C D cc cd LL LL w5 HC5.out HRD.out (by have := HNN.out; omega)
  rw [HNN.out] at hsl
  refine hsl.mono ?_
  rintro e w7 ⟨he, n7, rfl⟩
  rw [decide_eq_true rfl] at he
  subst he
  go_wp2_with fail
  go_ret
  exact ⟨rfl, below_drewN HB5.out _⟩
theorem law_linesPartsB (a b : ByteArray) (ha : a.size ≤ maxLen) (hb : b.size ≤ maxLen) (w : World) (hm : MX w) :
    Calls Tryd.prog 3 #[.string a, .string b] w fun e w' => e = .returned (.bool true) ∧ Below w.heap.size w w' := by
  have h := law_linesParts a.data.toList b.data.toList (by rw [bs_of]; exact ha) (by rw [bs_of]; exact hb) w hm
  rw [bs_of, bs_of] at h
  exact h
end Go.Proofs.YtkocnbehogefnaaDoor
