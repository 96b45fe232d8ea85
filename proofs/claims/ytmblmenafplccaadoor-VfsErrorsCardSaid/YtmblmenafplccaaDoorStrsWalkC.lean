/- Walk of the reference's PutString. -/
import Derived.Test.YtmblmenafplccaaDoorStrsWalkB
import Derived.Test.YtmblmenafplccaaDoorMapG
namespace Go.Proofs.YtmblmenafplccaaDoor
open Go.RowKit Go.Deep
/-- a text into a rising list, once -/
def putS (s : ByteArray) : List ByteArray → List ByteArray
  | [] => [s]
  | x :: l => if sLt x s then x :: putS s l else if x = s then x :: l else s :: x :: l
theorem putS_at {s : ByteArray} : ∀ (L : List ByteArray) (k : Nat), k ≤ L.length → (∀ j x, j < k → L[j]? = some x → sLt x s = true) → (∀ x, L[k]? = some x → sLt x s = false) →
    putS s L = if L[k]? = some s then L else L.take k ++ [s] ++ L.drop k
  | [], k, hk, _, _ => by
    obtain rfl : k = 0 := by simpa using hk
    rfl
  | x :: L, 0, hk, h1, h2 => by
    have := h2 x rfl
    rw [putS, if_neg (by rw [this]; simp)]
    simp
  | x :: L, k + 1, hk, h1, h2 => by
    rw [putS, if_pos (h1 0 x (by omega) rfl), putS_at L k (by simpa using hk) (fun j y hj hy => h1 (j + 1) y (by omega) (by simpa using hy)) (fun y hy => h2 y (by simpa using hy))]
    simp only [List.getElem?_cons_succ]
    split <;> simp
theorem Below.of_gb {w w' : World} {r : Option Nat} {B : Nat} (h : w.grownBy w' r) (hB : B ≤ w.heap.size) (hr : ∀ k, r = some k → B ≤ k) : Below B w w' := (Below.refl B w).grown h hB hr
theorem OwnS.lt {w : World} {base : Nat} {v : Value} {L : List ByteArray} (h : OwnS w base v L) : ∀ k, v.ownBlock = some k → base ≤ k ∧ k < w.heap.size := World.ownsRow.lt h
set_option maxRecDepth 100000 in
/-- three appends, one behind the other, in new rows -/
theorem putstr_chain (w : World) (A1 A2 : Option Addr) (c1 c2 : Nat) (L1 L2 : List ByteArray) (s : ByteArray) (h1 : SR w A2 L2) (h2 : SR w A1 L1) (hl : L1.length + L2.length ≤ 100000) :
    ∃ v1 w1 v2 w2 v3 w3 v4 w4, (Builtin.append_ #[31, 31] 31 #[.slice none 0 0, .slice A2 L2.length c2]).run Tryd.prog w = .ok v1 w1 ∧
      (Builtin.append_ #[31, 31] 31 #[.slice none 0 0, .slice A1 L1.length c1]).run Tryd.prog w1 = .ok v2 w2 ∧
      (Builtin.append_ #[31, 31] 31 #[v2, .slice (some ⟨w2.heap.size, 0, none⟩) 1 1]).run Tryd.prog (w2.alloc (.cells #[.string s] 9)) = .ok v3 w3 ∧
      (Builtin.append_ #[31, 31] 31 #[v3, v1]).run Tryd.prog w3 = .ok v4 w4 ∧ OwnS w4 w.heap.size v4 (L1 ++ [s] ++ L2) ∧ Below w.heap.size w w4 := by
  obtain ⟨v1, w1, r1, o1, g1, b1⟩ := run_appS (OwnS.nil w w.heap.size) h1 (Nat.le_refl _) (by simp; omega)
  have hb1 : Below w.heap.size w w1 := Below.of_gb g1 (Nat.le_refl _) (fun k hk => by cases hk)
  obtain ⟨v2, w2, r2, o2, g2, b2⟩ := run_appS (OwnS.nil w1 w1.heap.size) (h2.below hb1) (Nat.le_refl _) (by simp; omega)
  have hb2 : Below w.heap.size w w2 := below_up hb1 (Below.of_gb g2 (Nat.le_refl _) (fun k hk => by cases hk)) hb1.size
  have s1 := hb1.size
  have s2 := hb2.size
  have s12 := g2.size
  simp only [List.nil_append] at o1 o2
  have n1 : ∀ k, v1.ownBlock = some k → k < w1.heap.size := fun k hk => (o1.lt k hk).2
  have n2 : ∀ k, v2.ownBlock = some k → k = w1.heap.size := fun k hk => by
    rcases b2 with e | e
    · rw [e] at hk; cases hk
    · rw [e] at hk; injection hk with hk; exact hk.symm
  have o1a : OwnS (w2.alloc (.cells #[.string s] 9)) w.heap.size v1 L2 := (o1.kept g2 (Classical.em _)).alloc _
  obtain ⟨v3, w3, r3, o3, g3, b3⟩ := run_appS (o2.alloc (.cells #[.string s] 9)) (sr_new w2 s) (by simp; omega) (by simp; omega)
  have n3 : ∀ k, v3.ownBlock = some k → w.heap.size ≤ k := fun k hk => by
    rcases b3 with e | e
    · have := n2 k (e ▸ hk); omega
    · rw [e] at hk; injection hk with hk; simp at hk; omega
  have o1b : OwnS w3 w.heap.size v1 L2 := o1a.kept g3 (by
    cases hv : v1.ownBlock with
    | none => exact .inl rfl
    | some k =>
      right
      intro e
      have := n2 k e.symm
      have := n1 k hv
      omega)
  have hb3 : Below w.heap.size w w3 := (hb2.alloc hb2.size _).trans (Below.of_gb g3 (by simp; omega) (fun k hk => by have := n2 k hk; omega))
  have s3 := hb3.size
  obtain ⟨A, c, rfl, _, hsr, _⟩ := o1b.slice
  obtain ⟨v4, w4, r4, o4, g4, b4⟩ := run_appS o3 hsr (by have := g3.size; simp at this; omega) (by simp; omega)
  refine ⟨_, w1, v2, w2, v3, w3, v4, w4, r1, r2, r3, r4, ?_, hb3.trans (Below.of_gb g4 s3 n3)⟩
  exact ⟨o4.1, o4.2.imp id fun ⟨g, cap, cur, e, hg, r⟩ => ⟨g, cap, cur, e, by omega, r⟩⟩
set_option maxRecDepth 100000 in
set_option maxHeartbeats 1000000 in
theorem putstr_any (A : Option Addr) (c : Nat) (L : List ByteArray) (s : ByteArray) (w : World) (hA : SR w A L) (hl : L.length ≤ 10000) (hc : L.length ≤ c) :
    Calls Tryd.prog 18 #[.slice A L.length c, .string s] w fun e w' => (∃ A' c', e = .returned (.slice A' (putS s L).length c') ∧ SR w' A' (putS s L) ∧ (putS s L).length ≤ c') ∧ Below w.heap.size w w' := by
  obtain ⟨n, hn1⟩ : ∃ n, L.length = n := ⟨_, rfl⟩
  rw [hn1]
  rw [hn1] at hl hc
  have HN := hide hn1
  have HA := hide hA
  clear hA hn1
  go_enter Tryd.func18, Tryd.ntmps18
  go_wp2
  go_loop [5] (fun v5 => ∃ k : Nat, v5 = .int .i64 k ∧ k ≤ n ∧ Hid (∀ j x, j < k → L[j]? = some x → sLt x s = true)) (fun v5 => n - (intOf v5).toNat)
  case atStart => exact ⟨0, rfl, by omega, fun j x hj => by omega⟩
  case round =>
    obtain ⟨k, rfl, hk, HE⟩ := hrel
    by_cases hlt : k < n
    · obtain ⟨x, hx⟩ : ∃ x, L[k]? = some x := ⟨L[k]'(by have := HN.out; omega), List.getElem?_eq_getElem _⟩
      obtain ⟨g, o, rfl, hg, hcell⟩ := HA.out k x hx
      have HX := hide hx
      clear hx
      cases hs : sLt x s with
      | true =>
        have hs2 : Op.bytesLess x.toList s.toList = true := hs
        have HS := hide hs
        clear hs
        go_wp2
        go_round
        case rel =>
          refine ⟨k + 1, by go_num, by omega, fun j y hj hy => ?_⟩
          by_cases e : j = k
          · subst e
            have h1 := HX.out
            rw [h1] at hy
            injection hy with hy
            rw [← hy]
            exact HS.out
          · exact HE.out j y (by omega) hy
        case measure => simp [intOf]; omega
      | false =>
        have hs2 : Op.bytesLess x.toList s.toList = false := hs
        have HS := hide hs
        clear hs
        have HP := hide (putS_at (s := s) L k (by have := HN.out; omega) HE.out (fun y hy => by rw [HX.out] at hy; injection hy with hy; rw [← hy]; exact HS.out))
        by_cases he : x = s
        · have he2 : (x.toList == s.toList) = true := by simp [he]
          have HQ := hide (show putS s L = L by rw [HP.out, HX.out, he, if_pos rfl])
          clear he
          go_wp2
          go_ret
          refine ⟨⟨some ⟨g, o, none⟩, c, ?_, ?_, ?_⟩, Below.refl _ _⟩
          · rw [HQ.out, HN.out]; rfl
          · rw [HQ.out]; exact HA.out
          · rw [HQ.out, HN.out]; exact hc
        · have he2 := txt_ne he
          have HQ := hide (show putS s L = L.take k ++ [s] ++ L.drop k by rw [HP.out, HX.out, if_neg (fun e => he (by injection e))])
          clear he
          have hck : ¬ c = k := by omega
          obtain ⟨v1, w1, v2, w2, v3, w3, v4, w4, r1, r2, r3, r4, ho, hb⟩ := putstr_chain w (some ⟨g, o, none⟩) (some ⟨g, o + k, none⟩) c (c - k) (L.take k) (L.drop k) s (HA.out.drop k) (HA.out.take k) (by have := HN.out; simp; omega)
          rw [show (L.drop k).length = n - k from by simp; rw [HN.out]] at r1
          rw [show (L.take k).length = k from by simp; rw [HN.out]; omega] at r2
          have HO := hide ho
          have HB := hide hb
          clear ho hb
          go_wp2_with (first
            | (at_builtin; refine wpList_app_run ?_ (.const (.slice none 0 0)) (.tmp 36) ?_ ?_ ?_ ?_ r1 ?_; exact rfl; exact rfl; exact rfl; exact rfl; exact rfl)
            | (at_builtin; refine wpList_app_run ?_ (.const (.slice none 0 0)) (.tmp 40) ?_ ?_ ?_ ?_ r2 ?_; exact rfl; exact rfl; exact rfl; exact rfl; exact rfl)
            | (at_builtin; refine wpList_app_run ?_ (.tmp 41) (.tmp 43) ?_ ?_ ?_ ?_ r3 ?_; exact rfl; exact rfl; exact rfl; exact rfl; exact rfl)
            | (at_builtin; refine wpList_app_run ?_ (.tmp 44) (.tmp 45) ?_ ?_ ?_ ?_ r4 ?_; exact rfl; exact rfl; exact rfl; exact rfl; exact rfl))
          go_ret
          obtain ⟨A4, c4, rfl, hc4, hs4, _⟩ := HO.out.slice
          refine ⟨⟨A4, c4, ?_, ?_, ?_⟩, HB.out⟩
          · rw [HQ.out]; rfl
          · rw [HQ.out]; exact hs4
          · rw [HQ.out]; exact hc4
    · have e : k = n := by omega
      have HP := hide (putS_at (s := s) L k (by have := HN.out; omega) HE.out (fun y hy => by have := (List.getElem?_eq_some_iff.1 hy).1; have := HN.out; omega))
      have HQ := hide (show putS s L = L ++ [s] by
        have hnone : L[k]? = none := List.getElem?_eq_none (by have := HN.out; omega)
        rw [HP.out, hnone, if_neg (by simp), List.take_of_length_le (by have := HN.out; omega), List.drop_of_length_le (by have := HN.out; omega)]
        simp)
      clear HP
      subst e
      by_cases hck : c = k
      · subst hck
        obtain ⟨v1, w1, v2, w2, v3, w3, v4, w4, r1, r2, r3, r4, ho, hb⟩ := putstr_chain w A A c 0 L [] s (SR.nil _ _) HA.out (by have := HN.out; simp; omega)
        rw [List.append_nil] at ho
        rw [HN.out] at r2
        simp only [List.length_nil] at r1
        have HO := hide ho
        have HB := hide hb
        clear ho hb
        go_wp2_with (first
          | (at_builtin; refine wpList_app_run ?_ (.const (.slice none 0 0)) (.tmp 36) ?_ ?_ ?_ ?_ r1 ?_; exact rfl; exact rfl; exact rfl; exact rfl; exact rfl)
          | (at_builtin; refine wpList_app_run ?_ (.const (.slice none 0 0)) (.tmp 40) ?_ ?_ ?_ ?_ r2 ?_; exact rfl; exact rfl; exact rfl; exact rfl; exact rfl)
          | (at_builtin; refine wpList_app_run ?_ (.tmp 41) (.tmp 43) ?_ ?_ ?_ ?_ r3 ?_; exact rfl; exact rfl; exact rfl; exact rfl; exact rfl)
          | (at_builtin; refine wpList_app_run ?_ (.tmp 44) (.tmp 45) ?_ ?_ ?_ ?_ r4 ?_; exact rfl; exact rfl; exact rfl; exact rfl; exact rfl))
        go_ret
        obtain ⟨A4, c4, rfl, hc4, hs4, _⟩ := HO.out.slice
        refine ⟨⟨A4, c4, ?_, ?_, ?_⟩, HB.out⟩
        · rw [HQ.out]; rfl
        · rw [HQ.out]; exact hs4
        · rw [HQ.out]; exact hc4
      · obtain ⟨v1, w1, v2, w2, v3, w3, v4, w4, r1, r2, r3, r4, ho, hb⟩ := putstr_chain w A (Option.map (fun x => x.add k) A) c (c - k) L [] s (SR.nil _ _) HA.out (by have := HN.out; simp; omega)
        rw [List.append_nil] at ho
        rw [HN.out] at r2
        simp only [List.length_nil] at r1
        have HO := hide ho
        have HB := hide hb
        clear ho hb
        go_wp2_with (first
          | (at_builtin; refine wpList_app_run ?_ (.const (.slice none 0 0)) (.tmp 36) ?_ ?_ ?_ ?_ r1 ?_; exact rfl; exact rfl; exact rfl; exact rfl; exact rfl)
          | (at_builtin; refine wpList_app_run ?_ (.const (.slice none 0 0)) (.tmp 40) ?_ ?_ ?_ ?_ r2 ?_; exact rfl; exact rfl; exact rfl; exact rfl; exact rfl)
          | (at_builtin; refine wpList_app_run ?_ (.tmp 41) (.tmp 43) ?_ ?_ ?_ ?_ r3 ?_; exact rfl; exact rfl; exact rfl; exact rfl; exact rfl)
          | (at_builtin; refine wpList_app_run ?_ (.tmp 44) (.tmp 45) ?_ ?_ ?_ ?_ r4 ?_; exact rfl; exact rfl; exact rfl; exact rfl; exact rfl))
        go_ret
        obtain ⟨A4, c4, rfl, hc4, hs4, _⟩ := HO.out.slice
        refine ⟨⟨A4, c4, ?_, ?_, ?_⟩, HB.out⟩
        · rw [HQ.out]; rfl
        · rw [HQ.out]; exact hs4
        · rw [HQ.out]; exact hc4
end Go.Proofs.YtmblmenafplccaaDoor
