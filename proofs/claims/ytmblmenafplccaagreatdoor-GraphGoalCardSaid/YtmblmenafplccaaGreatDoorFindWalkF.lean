/- Walks of find's set and Two. -/
import Derived.Test.YtmblmenafplccaaGreatDoorFindWalkC
import Derived.Test.YtmblmenafplccaaGreatDoorMapSet
namespace Go.Proofs.YtmblmenafplccaaGreatDoor
open Go.RowKit Go.Deep Go.Maps Ln Pth Vf
theorem mkMapB (w : World) : (Instr.makeMap 80 none).run Tryz.prog w = .ok (.map (some w.heap.size)) (w.alloc (.map #[] 0)) := by kernel_rfl
attribute [local go_sem] bt_eq mkMapB

set_option maxRecDepth 100000 in
set_option maxHeartbeats 1000000 in
theorem set_any (A : Option Addr) (c : Nat) (L : List ByteArray) (w : World) (hA : SR w A L) (hl : L.length ≤ 100000) (hs : ∀ s ∈ L, s.size ≤ 100000) :
    Calls Tryz.prog 160 #[.slice A L.length c] w fun e w' => ∃ b, e = .returned (.map (some b)) ∧ w.heap.size ≤ b ∧ MSet w' b L ∧ Below w.heap.size w w' := by
  have HA := hide hA
  have HS := hide hs
  obtain ⟨n, hn⟩ : ∃ n, L.length = n := ⟨_, rfl⟩
  have HN := hide hn
  rw [hn] at hl ⊢
  clear hA hs hn
  have hn1 : (n : Int) ≤ 100000 := by omega
  go_enter Tryz.func160, Tryz.ntmps160
  go_wp2
  have hbm := (Below.refl w.heap.size w).alloc (Nat.le_refl _) (.map #[] 0)
  have HM0 := hide (MSet.made w)
  have HB0 := hide hbm
  have hsz0 : (w.alloc (.map #[] 0)).heap.size = w.heap.size + 1 := by simp
  obtain ⟨b, hb⟩ : ∃ b, w.heap.size = b := ⟨_, rfl⟩
  have HBB := hide hb
  rw [hb] at HM0 hsz0 ⊢
  generalize w.alloc (.map #[] 0) = W at HM0 HB0 hsz0 ⊢
  clear hbm hb
  go_loopw [5, 9] (fun _ v9 wr => ∃ k : Nat, v9 = .int .i64 k ∧ k ≤ n ∧ MSet wr b (L.take k) ∧ Kp W wr (fun k => k = b) ∧ wr.heap.size = b + 1) (fun _ v9 _ => n - (intOf v9).toNat)
  case atStart => exact ⟨0, rfl, by omega, HM0.out, Kp.refl _ _, hsz0⟩
  case round =>
    obtain ⟨k, rfl, hk, hm, hkp, hsz⟩ := hrel
    have HMS := hide hm
    have HKP := hide hkp
    have HBW := hide (hkp.below HB0.out (Nat.le_refl _) (fun k e => by have := HBB.out; omega))
    have HAR := hide (HA.out.below HBW.out)
    clear hm hkp
    by_cases hlt : k < n
    · obtain ⟨x, hx⟩ : ∃ x, L[k]? = some x := ⟨L[k]'(by have := HN.out; omega), List.getElem?_eq_getElem _⟩
      obtain ⟨gs, o, rfl, hg, hc⟩ := HAR.out k x hx
      have hxs := HS.out x (List.mem_of_getElem? hx)
      obtain ⟨w2, hrun, hm2, hk2, hs2⟩ := HMS.out.add (s := x) (by rw [List.length_take]; omega) (by omega)
      have HM2 := hide (show MSet w2 b (L.take (k + 1)) by rw [List.take_add_one, hx]; exact hm2)
      have HK2 := hide (HKP.out.trans (hk2.mono fun k e => .inl e))
      have b1 : (k : Int) < (n : Int) := by omega
      clear hx hm2 hk2 hxs
      go_wp2
      go_roundw
      case rel => exact ⟨k + 1, by go_num, by omega, HM2.out, HK2.out, by omega⟩
      case measure => simp [intOf]; omega
    · obtain rfl : k = n := by omega
      have HE := hide (show L.take k = L from List.take_of_length_le (by have := HN.out; omega))
      rw [HE.out] at HMS
      go_wp2
      go_ret
      exact ⟨b, rfl, by have := HBB.out; omega, HMS.out, HBW.out⟩
theorem two_step {all : List ByteArray} {t : T} : ∀ (L : List ByteArray) (k : Nat) (a : ByteArray), L[k]? = some a → twoGo all t (L.drop k) = if (Lib.hasPrefix t a.data.toList && Lib.containsS all (bs (t.drop a.size))) = true then (a.data.toList, t.drop a.size, true) else twoGo all t (L.drop (k + 1)) := by
  intro L k a h
  have hk := List.getElem?_eq_some_iff.1 h
  obtain ⟨h1, h2⟩ := hk
  rw [List.drop_eq_getElem_cons h1, h2, twoGo]
theorem cutp_any (t : T) (a : ByteArray) (w : World) : Calls Tryz.prog 200 #[.string (bs t), .string a] w fun e w' => e = .returned (.tuple #[.string (bs (Lib.trimPrefix t a.data.toList)), .bool (Lib.hasPrefix t a.data.toList)]) ∧ w = w' := by
  refine (Tryz.strings_CutPrefix (bs t) a w).mono ?_
  rintro e w' ⟨h1, h2⟩
  rw [bs_list] at h1
  exact ⟨h1, h2.symm⟩
/-- what Two tells -/
def TwoPost (r : T × T × Bool) (w : World) (e : Ending) (w' : World) : Prop := e = .returned (.tuple #[.string (bs r.1), .string (bs r.2.1), .bool r.2.2]) ∧ Below w.heap.size w w'
set_option maxRecDepth 100000 in
set_option maxHeartbeats 1000000 in
theorem two_any (t : T) (A : Option Addr) (c : Nat) (L : List ByteArray) (w : World) (hA : SR w A L) (hl : L.length ≤ 100000) (hs : ∀ s ∈ L, s.size ≤ 100000) (ht : t.length ≤ 100000) :
    Calls Tryz.prog 186 #[.string (bs t), .slice A L.length c] w (TwoPost (twoF t L) w) := by
  have HSE := hide (set_any A c L w hA hl hs)
  have HA := hide hA
  have HS := hide hs
  have hz : (bs t).size ≤ 9223372036854775807 := by rw [bs_size]; omega
  obtain ⟨n, hn⟩ : ∃ n, L.length = n := ⟨_, rfl⟩
  have HN := hide hn
  rw [hn] at hl HSE ⊢
  obtain ⟨R, hR⟩ : ∃ R, twoF t L = R := ⟨_, rfl⟩
  have HR := hide hR
  rw [hR]
  clear hA hs hn hR
  have hn1 : (n : Int) ≤ 100000 := by omega
  go_enter Tryz.func186, Tryz.ntmps186
  go_wp2_with fail
  refine HSE.out.mono ?_
  rintro e w1 ⟨b, rfl, hb, hm, hb1⟩
  have HM := hide hm
  have HB1 := hide hb1
  have HA1 := hide (HA.out.below hb1)
  clear hm hb1
  go_wp2
  go_loopw [9, 16] (fun _ v16 wr => ∃ k : Nat, v16 = .int .i64 k ∧ k ≤ n ∧ w1 = wr ∧ Hid (twoGo L t (L.drop k) = R)) (fun _ v16 _ => n - (intOf v16).toNat)
  case atStart => exact ⟨0, rfl, by omega, rfl, HR.out⟩
  case round =>
    obtain ⟨k, rfl, hk, rfl, HG⟩ := hrel
    by_cases hlt : k < n
    · obtain ⟨x, hx⟩ : ∃ x, L[k]? = some x := ⟨L[k]'(by have := HN.out; omega), List.getElem?_eq_getElem _⟩
      obtain ⟨gs, o, rfl, hg, hc⟩ := HA1.out k x hx
      have hst := two_step (all := L) (t := t) L k x hx
      rw [HG.out] at hst
      have HC := hide (fun W => cutp_any t x W)
      have b1 : (k : Int) < (n : Int) := by omega
      obtain ⟨hp, hhp⟩ : ∃ b, Lib.hasPrefix t x.data.toList = b := ⟨_, rfl⟩
      rw [hhp] at hst HC
      cases hp with
      | false =>
        have HST := hide (show twoGo L t (L.drop (k + 1)) = R from (hst.trans (if_neg (by simp))).symm)
        clear hx hst hhp
        go_wp2_with fail
        refine (HC.out _).mono ?_
        rintro e w' ⟨rfl, rfl⟩
        go_wp2
        go_roundw
        case rel => exact ⟨k + 1, by go_num, by omega, trivial, HST.out⟩
        case measure => simp [intOf]; omega
      | true =>
        have htp : Lib.trimPrefix t x.data.toList = t.drop x.size := by
          unfold Lib.trimPrefix
          rw [if_pos hhp, data_len]
        rw [htp] at HC
        have hlk := HM.out.look (s := bs (t.drop x.size)) (by rw [bs_size, List.length_drop]; omega)
        obtain ⟨cb, hcb⟩ : ∃ b, Lib.containsS L (bs (t.drop x.size)) = b := ⟨_, rfl⟩
        rw [hcb] at hlk hst
        obtain ⟨y, hy⟩ : ∃ y, t.drop x.size = y := ⟨_, rfl⟩
        rw [hy] at HC hlk hst
        have HXX := hide (bs_of x)
        clear hx hhp htp hcb hy
        cases cb with
        | false =>
          have HST := hide (show twoGo L t (L.drop (k + 1)) = R from (hst.trans (if_neg (by simp))).symm)
          clear hst
          go_wp2_with fail
          refine (HC.out _).mono ?_
          rintro e w' ⟨rfl, rfl⟩
          go_wp2
          go_roundw
          case rel => exact ⟨k + 1, by go_num, by omega, trivial, HST.out⟩
          case measure => simp [intOf]; omega
        | true =>
          have HST := hide (show R = (x.data.toList, y, true) from hst.trans (if_pos rfl))
          clear hst
          go_wp2_with fail
          refine (HC.out _).mono ?_
          rintro e w' ⟨rfl, rfl⟩
          go_wp2
          go_ret3
          unfold TwoPost
          rw [HST.out, HXX.out]
          exact ⟨rfl, HB1.out⟩
    · obtain rfl : k = n := by omega
      have HST := hide (show R = (t, [], Lib.containsS L (bs t)) by
        have := HG.out
        rw [List.drop_of_length_le (by have := HN.out; omega), twoGo] at this
        exact this.symm)
      have hlk := HM.out.look (s := bs t) hz
      have hlk2 := (show MSet w1.drew b L from HM.out.of rfl).look (s := bs t) hz
      obtain ⟨cb, hcb⟩ : ∃ b, Lib.containsS L (bs t) = b := ⟨_, rfl⟩
      rw [hcb] at hlk hlk2 HST
      clear hcb
      go_wp2
      go_region
      go_wp2
      go_ret3
      unfold TwoPost
      rw [HST.out]
      exact ⟨rfl, HB1.out.drew⟩
end Go.Proofs.YtmblmenafplccaaGreatDoor
