/- Walks of path.Parts and path.join. Walks of path.join and path.Abs. Walk of the program's path.Within. -/
import Derived.Test.YtkajhdbcnmafcaaGreatDoorPathMath
import Derived.Test.YtkajhdbcnmafcaaGreatDoorSplitBs
import Derived.Test.YtkajhdbcnmafcaaGreatDoorStrsWalk
import Derived.Test.YtkajhdbcnmafcaaGreatDoorRowsWalk
import Derived.Test.YtkajhdbcnmafcaaGreatDoorShelf
import Derived.Test.YtkajhdbcnmafcaaGreatDoorSep
import Derived.Test.YtkajhdbcnmafcaaGreatDoorContFunc
import Derived.Lib.Join
namespace Go.Proofs.YtkajhdbcnmafcaaGreatDoor
open Go.RowKit Go.Deep Ln Pth
attribute [local go_sem] bt_eq

theorem OwnS.take {w : World} {base : Nat} {A : Option Addr} {n c : Nat} {L : List ByteArray} (h : OwnS w base (.slice A n c) L) {k : Nat} (hk : k ≤ L.length) : OwnS w base (.slice A k c) (L.take k) := by
  obtain ⟨h1, h2⟩ := h
  have hl : (L.take k).length = k := by rw [List.length_take]; omega
  refine ⟨by unfold strVals; simp, ?_⟩
  rw [hl]
  rcases h2 with ⟨h3, h4⟩ | ⟨g, cap, cur, h3, h4, h5, h6, h7, h8, h9⟩
  · injection h3 with e1 e2 e3
    subst e1 e3
    obtain rfl : k = 0 := by omega
    exact .inl ⟨rfl, rfl⟩
  · injection h3 with e1 e2 e3
    subst e1 e3
    refine .inr ⟨g, c, cur, rfl, h4, h5, by omega, h7, h8, ?_⟩
    unfold strVals at h9 ⊢
    rw [List.map_take, ← h9, List.take_take]
    congr 1
    omega
theorem OwnS.base {w : World} {base base' : Nat} {v : Value} {L : List ByteArray} (h : OwnS w base v L) (hb : base' ≤ base) : OwnS w base' v L :=
  ⟨h.1, h.2.imp id fun ⟨g, cap, cur, e, hg, r⟩ => ⟨g, cap, cur, e, by omega, r⟩⟩
theorem SR.newL (w : World) (L : List ByteArray) (t : TypeId) : SR (w.alloc (.cells (L.map Value.string).toArray t)) (some ⟨w.heap.size, 0, none⟩) L := fun k x hk => by
  refine ⟨_, _, rfl, by simp, ?_⟩
  have h := heapNew w (.cells (L.map Value.string).toArray t)
  unfold World.cell?
  rw [h]
  simp [hk]
theorem OwnS.newL (w : World) (L : List ByteArray) {base : Nat} (hb : base ≤ w.heap.size) (hl : L.length ≤ 1000000) : OwnS (w.alloc (.cells (L.map Value.string).toArray 9)) base (.slice (some ⟨w.heap.size, 0, none⟩) L.length L.length) L := by
  refine ⟨by unfold strVals; simp, .inr ⟨_, _, _, rfl, hb, heapNew w _, Nat.le_refl _, by unfold maxLen; omega, by simp, ?_⟩⟩
  unfold strVals
  rw [Nat.mul_one, List.take_of_length_le (by simp)]
theorem split_cnt (l : T) (c : UInt8) : Lib.countB (bs l) ⟨#[c]⟩ + 1 = ((spl c l).map bs).length := by
  have := congrArg List.length (split_bs c l)
  rw [Lib.splitB_all _ (by simp [ByteArray.size]) 0 _ _ rfl] at this
  exact this
/-- the library's pieces of a text -/
theorem split_any (l : T) (c : UInt8) (w : World) (hm : MX w) (h : l.length ≤ 1000000) :
    Calls Tryz.prog 144 #[.string (bs l), .string ⟨#[c]⟩] w fun e w' => e = .returned (.slice (some ⟨w.heap.size, 0, none⟩) ((spl c l).map bs).length ((spl c l).map bs).length) ∧ w.alloc (.cells (((spl c l).map bs).map Value.string).toArray 9) = w' := by
  obtain ⟨mx, hmx⟩ := hm
  have := Tryz.strings_Split (bs l) ⟨#[c]⟩ mx w (by rw [bs_size]; omega) hmx (by simp [ByteArray.size])
  rw [split_cnt, split_bs] at this
  exact this.mono fun e w' ⟨h1, h2⟩ => ⟨h1, h2.symm⟩
theorem pre_slash (p : T) : Lib.hasPrefix (bs p).data.toList [47] = decide (p.head? = some 47) := by
  rw [bs_list]
  unfold Lib.hasPrefix
  cases p with
  | nil => rfl
  | cons c p =>
    rw [Bool.eq_iff_iff]
    simp only [List.isPrefixOf, List.head?_cons, Option.some.injEq, decide_eq_true_eq, Bool.and_eq_true, beq_iff_eq, and_true]
    exact eq_comm
theorem foldl_take {k : Nat} {L : List T} {x : T} (h : L[k]? = some x) : (L.take (k + 1)).foldl stepP [] = stepP ((L.take k).foldl stepP []) x := by
  rw [List.take_add_one, h, List.foldl_append]; rfl
set_option maxRecDepth 100000 in
set_option maxHeartbeats 2000000 in
theorem parts_any (cwd p : T) (w : World) (hm : MX w) (h1 : cwd.length ≤ 100000) (h2 : p.length ≤ 100000) :
    Calls Tryz.prog 114 #[.string (bs cwd), .string (bs p)] w fun e w' => (∃ v, e = .returned v ∧ OwnS w' w.heap.size v ((partsF cwd p).map bs)) ∧ Below w.heap.size w w' := by
  have HSP := hide (fun W h => split_any p 47 W h (by omega))
  have HSC := hide (fun W h => split_any cwd 47 W h (by omega))
  have HPR := hide (fun W => (Tryz.strings_HasPrefix (bs p) ⟨#[47]⟩ W).mono fun e w' ⟨h1, h2⟩ => (⟨h1, h2.symm⟩ : _ ∧ W = w'))
  rw [show (⟨#[47]⟩ : ByteArray).data.toList = [47] from rfl, pre_slash] at HPR
  have hl1 := spl_len 47 p
  have hl2 := spl_len 47 cwd
  have HM := hide hm
  obtain ⟨R, hR⟩ : ∃ R, partsF cwd p = R := ⟨_, rfl⟩
  have HRR := hide hR
  unfold partsF at hR
  obtain ⟨LP, hLP⟩ : ∃ L, (spl 47 p).map bs = L := ⟨_, rfl⟩
  obtain ⟨LC, hLC⟩ : ∃ L, (spl 47 cwd).map bs = L := ⟨_, rfl⟩
  have hlp : LP.length ≤ 100001 := by rw [← hLP, List.length_map]; omega
  have hlc : LC.length ≤ 100001 := by rw [← hLC, List.length_map]; omega
  have HLP := hide hLP
  have HLC := hide hLC
  rw [hLP] at HSP
  rw [hLC] at HSC
  clear hm hl1 hl2 hLP hLC
  by_cases hh : p.head? = some 47
  all_goals first
    | (rw [decide_eq_true hh] at HPR
       rw [if_pos hh] at hR
       have HR := hide hR
       clear hR hh
       go_enter Tryz.func114, Tryz.ntmps114
       go_wp2_with fail
       refine (HSP.out w HM.out).mono ?_
       rintro e w1 ⟨rfl, rfl⟩
       go_wp2_with fail
       refine (HPR.out _).mono ?_
       rintro e w' ⟨rfl, rfl⟩
       have HA := hide (SR.newL w LP 9)
       have HB := hide ((Below.refl w.heap.size w).alloc (Nat.le_refl _) (.cells (LP.map Value.string).toArray 9))
       have HFULL := hide (show ∃ M : List T, M.map bs = LP ∧ M.foldl stepP [] = R from ⟨_, HLP.out, HR.out⟩)
       obtain ⟨n, hn⟩ : ∃ n, LP.length = n := ⟨_, rfl⟩
       have hn2 : n ≤ 300000 := by omega
       have HN := hide hn
       rw [hn]
       go_wp2
       generalize (some ⟨w.heap.size, 0, none⟩ : Option Addr) = A at HA ⊢
       generalize w.alloc (.cells (LP.map Value.string).toArray 9) = W at HA HB ⊢
       generalize LP = LL at HA HFULL HN)
    | (rw [decide_eq_false hh] at HPR
       rw [if_neg hh] at hR
       have HR := hide hR
       clear hR hh
       go_enter Tryz.func114, Tryz.ntmps114
       go_wp2_with fail
       refine (HSP.out w HM.out).mono ?_
       rintro e w1 ⟨rfl, rfl⟩
       have HA0 := hide (SR.newL w LP 9)
       have hb0 := (Below.refl w.heap.size w).alloc (Nat.le_refl _) (.cells (LP.map Value.string).toArray 9)
       have HB0 := hide hb0
       have HM0 := hide (HM.out.below hb0)
       clear hb0
       go_wp2_with fail
       refine (HPR.out _).mono ?_
       rintro e w' ⟨rfl, rfl⟩
       generalize (some ⟨w.heap.size, 0, none⟩ : Option Addr) = A0 at HA0 ⊢
       generalize w.alloc (.cells (LP.map Value.string).toArray 9) = W0 at HA0 HB0 HM0 ⊢
       go_wp2_with fail
       refine (HSC.out W0 HM0.out).mono ?_
       rintro e w' ⟨rfl, rfl⟩
       have hb1 := (Below.refl W0.heap.size W0).alloc (Nat.le_refl _) (.cells (LC.map Value.string).toArray 9)
       obtain ⟨v, W, hrun, ho, hg, hv⟩ := run_appS (c := LP.length) (OwnS.newL W0 LC (Nat.le_refl _) (by omega)) (HA0.out.below hb1) (by simp) (by omega)
       obtain ⟨A, c, rfl, hlc2, hsr, _⟩ := OwnS.slice ho
       have HA := hide hsr
       have HB := hide (below_up HB0.out (hb1.trans ((Below.refl W0.heap.size _).grown hg (by simp) (fun q hq => by
         injection hq with hq; rw [← hq]; exact Nat.le_refl _))) HB0.out.size)
       have HFULL := hide (show ∃ M : List T, M.map bs = LC ++ LP ∧ M.foldl stepP [] = R from ⟨_, by rw [List.map_append, HLC.out, HLP.out], HR.out⟩)
       have hn2 : (LC ++ LP).length ≤ 300000 := by rw [List.length_append]; omega
       generalize LC ++ LP = LL at HA HFULL hrun hn2 hlc2
       clear ho hg hv hsr hb1
       go_wp2_with (at_builtin; refine wpList_app_run ?_ (.tmp 15) (.tmp 16) ?_ ?_ ?_ ?_ hrun ?_; exact rfl; exact rfl; exact rfl; exact rfl; exact rfl)
       obtain ⟨n, hn⟩ : ∃ n, LL.length = n := ⟨_, rfl⟩
       rw [hn] at hn2 ⊢
       have HN := hide hn
       clear hrun hlc2 hn)
  all_goals
    clear HSP HSC HPR HM HLP HLC
    obtain ⟨M, hM, hfull⟩ := HFULL.out
    have HFL := hide hfull
    have HMM := hide hM
    clear hM hfull HFULL
    have hn3 : (n : Int) ≤ 300000 := by omega
    have HML := hide (show M.length = n by have := HN.out; rw [← HMM.out, List.length_map] at this; exact this)
    go_loopw [6, 20] (fun v6 v20 wr => ∃ k : Nat, v20 = .int .i64 k ∧ k ≤ n ∧ OwnS wr W.heap.size v6 (((M.take k).foldl stepP []).map bs) ∧ Below W.heap.size W wr) (fun _ v20 _ => n - (intOf v20).toNat)
    case atStart => exact ⟨0, rfl, by omega, OwnS.nil _ _, Below.refl _ _⟩
    case round =>
      obtain ⟨k, rfl, hk, ho, hbw⟩ := hrel
      have HO := hide ho
      have HAR := hide (HA.out.below hbw)
      have HBW := hide hbw
      clear ho hbw
      by_cases hlt : k < n
      · obtain ⟨x, hx⟩ : ∃ x, M[k]? = some x := ⟨M[k]'(by have := HML.out; omega), List.getElem?_eq_getElem _⟩
        obtain ⟨g, o, rfl, hg, hc⟩ := HAR.out k (bs x) (by rw [← HMM.out, List.getElem?_map, hx]; rfl)
        have HT := hide (foldl_take hx)
        have b1 : (k : Int) < (n : Int) := by omega
        have hql : ((M.take k).foldl stepP []).length ≤ 300000 := by
          have := foldl_len (M.take k) []
          rw [List.length_take, List.length_nil] at this
          omega
        clear hx
        generalize (M.take k).foldl stepP [] = Q at HO HT hql
        by_cases e1 : x = []
        · subst e1
          have hem : (bs ([] : T)).toList.isEmpty = true := by rw [bs_toList]; rfl
          go_wp2
          go_roundw
          case rel => exact ⟨k + 1, by go_num, by omega, by rw [HT.out, stepP, if_pos (.inl rfl)]; exact HO.out, HBW.out⟩
          case measure => simp [intOf]; omega
        by_cases e2 : x = [46]
        · subst e2
          have hem : (bs ([46] : T)).toList.isEmpty = false := by rw [bs_toList]; rfl
          have h46 : ((bs ([46] : T)).toList == [46]) = true := by rw [bs_toList]; rfl
          go_wp2
          go_roundw
          case rel => exact ⟨k + 1, by go_num, by omega, by rw [HT.out, stepP, if_pos (.inr rfl)]; exact HO.out, HBW.out⟩
          case measure => simp [intOf]; omega
        have hem : (bs x).toList.isEmpty = false := by rw [bs_toList]; cases x; exact absurd rfl e1; rfl
        have h46 : ((bs x).toList == [46]) = false := by rw [bs_toList]; simpa using e2
        by_cases e3 : x = [46, 46]
        · subst e3
          have h4646 : ((bs ([46, 46] : T)).toList == [46, 46]) = true := by rw [bs_toList]; rfl
          obtain ⟨A2, c2, rfl, hc2, hs2, _⟩ := HO.out.slice
          rw [List.length_map] at hc2 HO ⊢
          have hdl : (Q.dropLast.map bs) = (Q.map bs).take (Q.length - 1) := by rw [List.dropLast_eq_take, List.map_take]
          have HO2 := hide (HO.out.take (k := Q.length - 1) (by simp))
          rw [← hdl] at HO2
          clear hs2 hdl
          obtain ⟨m, hm⟩ : ∃ m, Q.length = m := ⟨_, rfl⟩
          rw [hm] at hc2 HO HO2 hql ⊢
          clear hm HO
          cases m with
          | zero =>
            go_wp2
            go_roundw
            case rel => exact ⟨k + 1, by go_num, by omega, by rw [HT.out, stepP, if_neg (by simp), if_pos rfl]; exact HO2.out, HBW.out⟩
            case measure => simp [intOf]; omega
          | succ m =>
            have hm1 : (m : Int) ≤ 300000 := by omega
            have hm2 : max (0 : Int) (m : Int) = m := by omega
            go_wp2
            go_roundw
            case rel => exact ⟨k + 1, by go_num, by omega, by rw [HT.out, stepP, if_neg (by simp), if_pos rfl]; exact HO2.out, HBW.out⟩
            case measure => simp [intOf]; omega
        · have h4646 : ((bs x).toList == [46, 46]) = false := by rw [bs_toList]; simpa using e3
          have hb0 : W.heap.size ≤ wr.heap.size := HBW.out.size
          obtain ⟨v4, w4, r4, o4, g4, b4⟩ := run_appS (c := 1) (OwnS.alloc HO.out (.cells #[.string (bs x)] 9)) (sr_new wr (bs x)) (by simp; omega) (by simp; omega)
          have HO4 := hide o4
          have HB4 := hide ((HBW.out.alloc hb0 (.cells #[.string (bs x)] 9)).trans ((Below.refl W.heap.size _).grown g4 (by simp; omega) (fun q hq => (World.ownsRow.lt HO.out q hq).1)))
          clear o4 g4 b4
          go_wp2_with (at_builtin; refine wpList_app_run ?_ (.tmp 25) (.tmp 27) ?_ ?_ ?_ ?_ r4 ?_; exact rfl; exact rfl; exact rfl; exact rfl; exact rfl)
          go_roundw
          case rel => exact ⟨k + 1, by go_num, by omega, by rw [HT.out, stepP, if_neg (by simp [e1, e2]), if_neg e3, List.map_append]; exact HO4.out, HB4.out⟩
          case measure => simp [intOf]; omega
      · obtain rfl : k = n := by omega
        have HF := hide (show (M.take k).foldl stepP [] = R by rw [List.take_of_length_le (by have := HML.out; omega)]; exact HFL.out)
        rw [HF.out] at HO
        go_wp2
        go_ret
        refine ⟨⟨_, rfl, ?_⟩, below_up HB.out HBW.out HB.out.size⟩
        rw [HRR.out]
        exact HO.out.base HB.out.size
end Go.Proofs.YtkajhdbcnmafcaaGreatDoor
namespace Go.Proofs.YtkajhdbcnmafcaaGreatDoor
open Go.RowKit Go.Deep Ln Pth
attribute [local go_sem] bt_eq

theorem join_slashed : ∀ l : List T, 47 :: Lib.join l [47] = joinF l
  | [] => rfl
  | s :: l => by
    rw [joinF, if_neg (by simp)]
    induction l generalizing s with
    | nil => rw [Lib.join_one]; simp [slashed]
    | cons t l ih =>
      have := ih t
      rw [slashed_cons' , ← this]
      simp [Lib.join, List.intercalate]
where
  slashed_cons' {s : T} {r : List T} : slashed (s :: r) = 47 :: (s ++ slashed r) := by simp [slashed]
set_option maxRecDepth 100000 in
set_option maxHeartbeats 400000 in
theorem pjoin_any (A : Option Addr) (c : Nat) (l : List T) (w : World) (hA : SR w A (l.map bs)) (hc : l.length ≤ c) (hn : l.length ≤ 1000000) (hl : (joinF l).length ≤ 1000000) :
    Calls Tryz.prog 116 #[.slice A l.length c] w fun e w' => e = .returned (.string (bs (joinF l))) ∧ Below w.heap.size w w' := by
  have hjl : (Lib.join l [47]).length ≤ 1000000 := by
    have := join_slashed l
    have h2 := congrArg List.length this
    simp only [List.length_cons] at h2
    omega
  have HJ : Hid (Calls Tryz.prog 145 #[.slice A l.length c, .string ⟨#[47]⟩] w fun e w' => e = .returned (.string (bs (Lib.join l [47]))) ∧ Below w.heap.size w w') := by
    cases l with
    | nil => exact hide ((Tryz.strings_Join_none A c ⟨#[47]⟩ w).mono fun e w' ⟨h1, h2⟩ => ⟨h1, h2 ▸ Below.refl _ _⟩)
    | cons s l =>
      obtain ⟨g, o, rfl, hg, _⟩ := hA 0 (bs s) rfl
      have hm : ((s :: l).map bs).map (·.data.toList) = s :: l := by
        rw [List.map_map]
        conv => rhs; rw [← List.map_id (s :: l)]
        apply List.map_congr_left
        intro x _
        exact bs_list x
      have := Tryz.strings_Join g o c ((s :: l).map bs) ⟨#[47]⟩ w (fun j x hj => by
        obtain ⟨g', o', e, _, hc'⟩ := hA j x hj
        injection e with e
        injection e with e1 e2
        subst e1 e2
        exact hc') hg (by rw [List.length_map]; omega) (by rw [List.length_map]; exact hc) (by rw [hm]; show (Lib.join (s :: l) [47]).length ≤ _; omega)
      rw [hm, List.length_map] at this
      exact hide this
  have HE := hide (show (⟨#[47]⟩ : ByteArray) ++ bs (Lib.join l [47]) = bs (joinF l) by rw [← join_slashed l]; exact bs_app [47] _)
  have z1 : (bs (Lib.join l [47])).size ≤ 1000000 := by rw [bs_size]; exact hjl
  generalize bs (Lib.join l [47]) = s1 at HJ HE z1
  generalize bs (joinF l) = s2 at HE ⊢
  obtain ⟨n, hn⟩ : ∃ n, l.length = n := ⟨_, rfl⟩
  rw [hn] at HJ ⊢
  clear hA hc hl hjl hn
  go_enter Tryz.func116, Tryz.ntmps116
  go_wp2_with fail
  refine HJ.out.mono ?_
  rintro e w' ⟨rfl, hb⟩
  have HB := hide hb
  clear hb
  go_wp2
  go_ret
  refine ⟨?_, HB.out⟩
  rw [← HE.out]
  rfl
theorem has0_any (l : T) (w : World) : Calls Tryz.prog 101 #[.string (bs l), .string ⟨#[0]⟩] w fun e w' => e = .returned (.bool (decide (0 ∈ l))) ∧ w = w' := by
  have := Tryz.strings_Contains_one (bs l) 0 w
  rw [bs_list, show decide (0 ≤ Lib.indexByte l 0) = decide ((0 : UInt8) ∈ l) from decide_eq_decide.2 (ixb_mem 0 l)] at this
  exact this.mono fun e w' ⟨h1, h2⟩ => ⟨h1, h2.symm⟩
set_option maxRecDepth 100000 in
theorem abs1_any (s : ByteArray) (w : World) (h : s.size ≤ 9223372036854775807) : Calls Tryz.prog 115 #[.string s] w fun e w' => e = .returned (.bool (decide (60 < s.size))) ∧ w = w' := by
  have h1 : (s.size : Int) ≤ 9223372036854775807 := by omega
  by_cases hs : 60 < s.size
  · have h2 : (60 : Int) < (s.size : Int) := by omega
    rw [decide_eq_true hs]
    clear hs
    go_enter Tryz.func115, Tryz.ntmps115
    go_wp2
    go_ret
    exact ⟨rfl, rfl⟩
  · have h2 : decide (60 < (s.size : Int)) = false := by simp; omega
    rw [decide_eq_false hs]
    clear hs
    go_enter Tryz.func115, Tryz.ntmps115
    go_wp2
    go_ret
    exact ⟨rfl, rfl⟩
/-- what Abs tells -/
def AbsPost (a : T × Nat) (w : World) (e : Ending) (w' : World) : Prop := e = .returned (.tuple #[.string (bs a.1), .int .i64 a.2]) ∧ Below w.heap.size w w'
set_option maxRecDepth 100000 in
set_option maxHeartbeats 1000000 in
theorem abs_any (cwd p : T) (w : World) (hm : MX w) (h1 : cwd.length ≤ 100000) (h2 : p.length ≤ 100000) :
    Calls Tryz.prog 65 #[.string (bs cwd), .string (bs p)] w (AbsPost (absF cwd p) w) := by
  have HC0 := hide (fun W => has0_any cwd W)
  have HP0 := hide (fun W => has0_any p W)
  have HPA := hide (fun W h => parts_any cwd p W h h1 h2)
  have HM := hide hm
  clear hm
  by_cases c1 : p = []
  · subst c1
    have hem : (bs ([] : T)).toList.isEmpty = true := by rw [bs_toList]; rfl
    have HR := hide (show absF cwd [] = ([], 1) from if_pos (.inl rfl))
    go_enter Tryz.func65, Tryz.ntmps65
    go_wp2
    go_ret2
    unfold AbsPost
    rw [HR.out]
    exact ⟨rfl, Below.refl _ _⟩
  have hem : (bs p).toList.isEmpty = false := by rw [bs_toList]; cases p; exact absurd rfl c1; rfl
  by_cases c2 : 0 ∈ cwd
  · rw [decide_eq_true c2] at HC0
    have HR := hide (show absF cwd p = ([], 1) from if_pos (.inr (.inl c2)))
    clear c2
    go_enter Tryz.func65, Tryz.ntmps65
    go_wp2_with fail
    refine (HC0.out _).mono ?_
    rintro e w' ⟨rfl, rfl⟩
    go_wp2
    go_ret2
    unfold AbsPost
    rw [HR.out]
    exact ⟨rfl, Below.refl _ _⟩
  rw [decide_eq_false c2] at HC0
  by_cases c3 : 0 ∈ p
  · rw [decide_eq_true c3] at HP0
    have HR := hide (show absF cwd p = ([], 1) from if_pos (.inr (.inr c3)))
    clear c3 c2
    go_enter Tryz.func65, Tryz.ntmps65
    go_wp2_with fail
    refine (HC0.out _).mono ?_
    rintro e w' ⟨rfl, rfl⟩
    go_wp2_with fail
    refine (HP0.out _).mono ?_
    rintro e w' ⟨rfl, rfl⟩
    go_wp2
    go_ret2
    unfold AbsPost
    rw [HR.out]
    exact ⟨rfl, Below.refl _ _⟩
  rw [decide_eq_false c3] at HP0
  have hR : absF cwd p = if longF (partsF cwd p) = false ∧ (partsF cwd p).length ≤ 20 ∧ (joinF (partsF cwd p)).length ≤ 200 then (joinF (partsF cwd p), 0) else ([], 3) := by
    unfold absF
    rw [if_neg (by rintro (h | h | h); exact c1 h; exact c2 h; exact c3 h)]
  have hpl := partsF_len cwd p
  have hjl := joinF_len cwd p
  obtain ⟨L, hL⟩ : ∃ L, partsF cwd p = L := ⟨_, rfl⟩
  rw [hL] at hR HPA hpl hjl
  have HR := hide hR
  clear c1 c2 c3 hL hR
  go_enter Tryz.func65, Tryz.ntmps65
  go_wp2_with fail
  refine (HC0.out _).mono ?_
  rintro e w' ⟨rfl, rfl⟩
  go_wp2_with fail
  refine (HP0.out _).mono ?_
  rintro e w' ⟨rfl, rfl⟩
  go_wp2_with fail
  refine (HPA.out w HM.out).mono ?_
  rintro e w1 ⟨⟨v, rfl, ho⟩, hb1⟩
  obtain ⟨A, c, rfl, hc, hsr, _⟩ := OwnS.slice ho
  have HA := hide hsr
  have HB1 := hide hb1
  rw [List.length_map] at hc ⊢
  have hln : L.any (fun s => decide (60 < s.length)) = longF L := rfl
  have HCF := hide (contf_any (fun s => decide (60 < s.size)) 115 #[] (fun _ _ => by kernel_rfl) A c (L.map bs) w1 (by rw [List.length_map]; omega) HA.out (fun W x hx hb => by
    obtain ⟨y, hy, rfl⟩ := List.mem_map.1 hx
    refine (abs1_any (bs y) W (by rw [bs_size]; have := hjl.2 y hy; omega)).mono ?_
    rintro e w' ⟨h1, rfl⟩
    exact ⟨h1, hb⟩))
  have hany : (L.map bs).any (fun s => decide (60 < s.size)) = longF L := by
    unfold longF
    rw [List.any_map]
    congr 1
  rw [hany, List.length_map] at HCF
  clear hany hln ho hb1 hsr
  have HPJ := hide (fun W (h : Below w1.heap.size w1 W) => pjoin_any A c L W (HA.out.below h) hc (by omega) (by omega))
  obtain ⟨n, hn⟩ : ∃ n, L.length = n := ⟨_, rfl⟩
  have zj : (bs (joinF L)).size = (joinF L).length := bs_size _
  obtain ⟨J, hJ⟩ : ∃ J, joinF L = J := ⟨_, rfl⟩
  obtain ⟨lg, hlg⟩ : ∃ b, longF L = b := ⟨_, rfl⟩
  obtain ⟨sj, hsj⟩ : ∃ s, bs J = s := ⟨_, rfl⟩
  obtain ⟨jn, hjn⟩ : ∃ s, J.length = s := ⟨_, rfl⟩
  rw [hJ, hjn, hsj] at zj
  rw [hJ, hjn] at hjl
  rw [hn] at HPJ HCF hpl ⊢
  rw [hJ, hsj] at HPJ
  rw [hlg] at HCF
  have hR := HR.out
  rw [hJ, hn, hlg, hjn] at hR
  have HRR := hide hR
  have HSJ := hide hsj
  have hjl1 := hjl.1
  clear hR HR hJ hlg hsj hjn hn hjl hc
  have hn1 : (n : Int) ≤ 300000 := by omega
  go_wp2_with fail
  refine HCF.out.mono ?_
  rintro e w2 ⟨rfl, hb2⟩
  have HB2 := hide (below_up HB1.out hb2 HB1.out.size)
  have HBJ := hide hb2
  clear hb2
  go_wp2_with fail
  refine (HPJ.out w2 HBJ.out).mono ?_
  rintro e w3 ⟨rfl, hb3⟩
  have HB3 := hide (below_up HB2.out hb3 HB2.out.size)
  clear hb3
  cases lg with
  | true =>
    have HE := hide (show absF cwd p = ([], 3) by rw [HRR.out, if_neg (by simp)])
    go_wp2
    go_ret2
    unfold AbsPost
    rw [HE.out]
    exact ⟨rfl, HB3.out⟩
  | false =>
    by_cases d1 : n ≤ 20
    · by_cases d2 : jn ≤ 200
      · have HE := hide (show absF cwd p = (J, 0) by rw [HRR.out, if_pos ⟨rfl, d1, d2⟩])
        have e1 : (n : Int) ≤ 20 := by omega
        have e2 : (jn : Int) ≤ 200 := by omega
        go_wp2
        go_ret2
        unfold AbsPost
        rw [HE.out, HSJ.out]
        exact ⟨rfl, HB3.out⟩
      · have HE := hide (show absF cwd p = ([], 3) by rw [HRR.out, if_neg (by rintro ⟨_, _, h⟩; exact d2 h)])
        have e1 : (n : Int) ≤ 20 := by omega
        have e2 : decide ((jn : Int) ≤ 200) = false := by simp; omega
        go_wp2
        go_ret2
        unfold AbsPost
        rw [HE.out]
        exact ⟨rfl, HB3.out⟩
    · have HE := hide (show absF cwd p = ([], 3) by rw [HRR.out, if_neg (by rintro ⟨_, h, _⟩; exact d1 h)])
      have e1 : decide ((n : Int) ≤ 20) = false := by simp; omega
      go_wp2
      go_ret2
      unfold AbsPost
      rw [HE.out]
      exact ⟨rfl, HB3.out⟩
end Go.Proofs.YtkajhdbcnmafcaaGreatDoor
namespace Go.Proofs.YtkajhdbcnmafcaaGreatDoor
open Go.RowKit Go.Deep Ln Pth
set_option linter.unusedSimpArgs false
set_option linter.unusedVariables false
attribute [local go_sem] bt_eq

theorem map_bsI {a b : List T} : a.map bs = b.map bs ↔ a = b := by
  constructor
  · intro h
    have := congrArg (List.map (fun s : ByteArray => s.data.toList)) h
    simpa [List.map_map, Function.comp_def, bs_list] using this
  · rintro rfl; rfl
/-- slices.Equal of two rows of texts -/
theorem seq_any (A B : Option Addr) (c d : Nat) (xs ys : List ByteArray) (w : World) (h1 : SR w A xs) (h2 : SR w B ys) (hx : xs.length ≤ 1000000) (hy : ys.length ≤ 1000000) :
    Calls Tryz.prog 146 #[.slice A xs.length c, .slice B ys.length d] w fun e w' => e = .returned (.bool (decide (xs = ys))) ∧ Below w.heap.size w w' := by
  by_cases hl : xs.length = ys.length
  case neg =>
    refine (Tryz.slices_Equal_string_lens A B xs.length c ys.length d w hl).mono ?_
    rintro e w' ⟨rfl, rfl⟩
    rw [decide_eq_false (fun e => hl (by rw [e]))]
    exact ⟨rfl, Below.refl _ _⟩
  by_cases h0 : xs = []
  · subst h0
    have : ys = [] := List.eq_nil_of_length_eq_zero (by rw [← hl]; rfl)
    subst this
    refine (Tryz.slices_Equal_string_empty A B c 0 d w (by omega)).mono ?_
    rintro e w' ⟨rfl, rfl⟩
    exact ⟨rfl, Below.refl _ _⟩
  · have h0y : ys ≠ [] := fun e => h0 (List.eq_nil_of_length_eq_zero (by rw [hl, e]; rfl))
    obtain ⟨g1, o1, rfl, _, _⟩ := h1 0 _ (List.getElem?_eq_getElem (List.length_pos_iff.2 h0))
    obtain ⟨g2, o2, rfl, _, _⟩ := h2 0 _ (List.getElem?_eq_getElem (List.length_pos_iff.2 h0y))
    refine (Tryz.slices_Equal_string g1 o1 xs.length c g2 o2 ys.length d xs ys w (Nat.le_refl _) (Nat.le_refl _) (by omega) (by omega) (fun j hj => ?_) (fun j hj => ?_)).mono ?_
    · obtain ⟨g, o, e, _, h⟩ := h1 j _ (List.getElem?_eq_getElem hj)
      injection e with e
      injection e with e1 e2
      subst e1 e2
      rw [h, List.getD_eq_getElem?_getD, List.getElem?_eq_getElem hj]
      rfl
    · obtain ⟨g, o, e, _, h⟩ := h2 j _ (List.getElem?_eq_getElem hj)
      injection e with e
      injection e with e1 e2
      subst e1 e2
      rw [h, List.getD_eq_getElem?_getD, List.getElem?_eq_getElem hj]
      rfl
    · rintro e w' ⟨rfl, q, rfl⟩
      rw [List.take_length, List.take_length]
      exact ⟨rfl, below_drewN (Below.refl _ _) q⟩
set_option maxRecDepth 100000 in
set_option maxHeartbeats 1000000 in
theorem within_any (p q : T) (w : World) (hm : MX w) (h1 : p.length ≤ 90000) (h2 : q.length ≤ 90000) :
    Calls Tryz.prog 117 #[.string (bs p), .string (bs q)] w fun e w' => e = .returned (.bool (withinF p q)) ∧ Below w.heap.size w w' := by
  have HPA := hide (parts_any [47] p w hm (by simp) (by omega))
  have HQA := hide (fun W (hb : Below w.heap.size w W) => parts_any [47] q W (hm.below hb) (by simp) (by omega))
  rw [show bs [47] = ⟨#[47]⟩ from rfl] at HPA HQA
  have hpl := partsF_len [47] p
  have hql := partsF_len [47] q
  have hD : withinF p q = decide ((partsF [47] q).take (partsF [47] p).length = partsF [47] p) := rfl
  obtain ⟨L, hL⟩ : ∃ L, partsF [47] p = L := ⟨_, rfl⟩
  obtain ⟨M, hM⟩ : ∃ L, partsF [47] q = L := ⟨_, rfl⟩
  rw [hL] at HPA hpl hD
  rw [hM] at HQA hql hD
  have HD := hide hD
  clear hL hM hD
  go_enter Tryz.func117, Tryz.ntmps117
  go_wp2_with fail
  refine HPA.out.mono ?_
  rintro e w1 ⟨⟨v, rfl, ho⟩, hb1⟩
  obtain ⟨A, c, rfl, hc, hsr, _⟩ := OwnS.slice ho
  have HA := hide hsr
  have HB1 := hide hb1
  clear ho hb1 hsr
  go_wp2_with fail
  refine (HQA.out w1 HB1.out).mono ?_
  rintro e w2 ⟨⟨v, rfl, ho⟩, hb2⟩
  obtain ⟨B, d, rfl, hd, hsr, _⟩ := OwnS.slice ho
  have HA2 := hide (HA.out.below hb2)
  have HB2 := hide (below_up HB1.out hb2 HB1.out.size)
  have HM2 := hide hsr
  clear ho hb2 hsr
  rw [List.length_map] at hc hd ⊢
  (try rw [List.length_map])
  have hpl2 : L.length ≤ 100000 := by simp at hpl; omega
  have hql2 : M.length ≤ 100000 := by simp at hql; omega
  obtain ⟨n, hn⟩ : ∃ n, L.length = n := ⟨_, rfl⟩
  obtain ⟨m, hmm⟩ : ∃ n, M.length = n := ⟨_, rfl⟩
  have HN := hide hn
  have HMM := hide hmm
  rw [hn] at hc hpl2 ⊢
  rw [hmm] at hd hql2 ⊢
  clear hn hmm hpl hql
  by_cases h0 : n ≤ m
  · have d0 : decide ((n : Int) ≤ (m : Int)) = true := by simp; omega
    have d0' : decide (n ≤ m) = true := by simp; omega
    have hni : (n : Int) ≤ (d : Int) := by omega
    have hni2 : (n : Int) ≤ 100000 := by omega
    have hnn : (0 : Int) ≤ (n : Int) := by omega
    have hwr2 : IntKind.i64.wrap (n : Int) = (n : Int) := IntWalk.i64_in _ (by omega)
    have hsm := seq_any A B c d (L.map bs) ((M.take n).map bs) w2 HA2.out (by rw [List.map_take]; exact HM2.out.take n) (by rw [List.length_map, HN.out]; omega) (by rw [List.length_map, List.length_take]; omega)
    rw [show ((M.take n).map bs).length = n by rw [List.length_map, List.length_take, HMM.out]; omega, show (L.map bs).length = n by rw [List.length_map, HN.out], show decide (L.map bs = (M.take n).map bs) = withinF p q by
      rw [HD.out, HN.out]
      exact decide_eq_decide.2 (map_bsI.trans eq_comm)] at hsm
    have HSM := hide hsm
    clear hsm h0
    go_wp2_with fail
    refine HSM.out.mono ?_
    rintro e w3 ⟨rfl, hb3⟩
    have HB3 := hide (below_up HB2.out hb3 HB2.out.size)
    clear hb3
    go_wp2
    go_ret
    exact ⟨rfl, HB3.out⟩
  · have d0 : decide ((n : Int) ≤ (m : Int)) = false := by simp; omega
    have d0' : decide (n ≤ m) = false := by simp; omega
    have HE := hide (show withinF p q = false by
      rw [HD.out, decide_eq_false]
      intro h
      have := congrArg List.length h
      rw [List.length_take, HN.out, HMM.out] at this
      omega)
    clear h0
    go_wp2
    go_ret
    rw [HE.out]
    exact ⟨rfl, HB2.out⟩
end Go.Proofs.YtkajhdbcnmafcaaGreatDoor
