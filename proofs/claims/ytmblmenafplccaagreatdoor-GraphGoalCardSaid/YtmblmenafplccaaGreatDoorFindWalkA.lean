/- Walks of stem.Is, find.plain, find.Special. -/
import Derived.Test.YtmblmenafplccaaGreatDoorRulesRep
import Derived.Test.YtmblmenafplccaaGreatDoorContFunc
import Derived.Test.YtmblmenafplccaaGreatDoorSep
import Derived.Test.YtmblmenafplccaaGreatDoorQBase
import Derived.Test.YtmblmenafplccaaGreatDoorBs
import Derived.Test.YtmblmenafplccaaGreatDoorShelf
namespace Go.Proofs.YtmblmenafplccaaGreatDoor
open Go.RowKit Go.Deep
attribute [local go_sem] bt_eq

theorem cont_any (A : Option Addr) (c : Nat) (L : List ByteArray) (x : ByteArray) (w : World) (hA : SR w A L) (hl : L.length ≤ 1000000) :
    Calls Tryz.prog 74 #[.slice A L.length c, .string x] w fun e w' => e = .returned (.bool (Lib.containsS L x)) ∧ w = w' := by
  cases L with
  | nil => exact (Tryz.slices_Contains_string_empty A c x w).mono fun e w' ⟨h1, h2⟩ => ⟨h1, h2.symm⟩
  | cons y L =>
    obtain ⟨g, o, rfl, _, _⟩ := hA 0 y rfl
    have := Tryz.slices_Contains_string g o (y :: L).length c (y :: L) x w (Nat.le_refl _) (by omega) (fun j hj => by
      obtain ⟨g', o', e, _, hc⟩ := hA j ((y :: L)[j]) (List.getElem?_eq_getElem hj)
      injection e with e
      injection e with e1 e2
      subst e1 e2
      rw [hc]
      congr 2
      rw [List.getD_eq_getElem?_getD, List.getElem?_eq_getElem hj]
      rfl)
    rw [List.take_length] at this
    exact this.mono fun e w' ⟨h1, h2⟩ => ⟨h1, h2.symm⟩
set_option maxRecDepth 100000 in
theorem stemIs_any (s : ByteArray) (w : World) : Calls Tryz.prog 157 #[.string s] w fun e w' => e = .returned (.bool (isP s)) ∧ w = w' := by
  have h := Tryz.strings_Contains_one s 37 w
  rw [show decide (0 ≤ Lib.indexByte s.data.toList 37) = isP s from decide_eq_decide.2 (ixb_mem 37 _)] at h
  have H := hide h
  clear h
  generalize isP s = b at *
  go_enter Tryz.func157, Tryz.ntmps157
  go_wp2_with fail
  refine H.out.mono ?_
  rintro e w' ⟨rfl, rfl⟩
  go_wp2
  go_ret
  exact ⟨rfl, rfl⟩
set_option maxRecDepth 100000 in
set_option maxHeartbeats 400000 in
theorem plain_any (r : Rl) (w : World) (hr : RlOk w r) : Calls Tryz.prog 128 #[.agg #[sv r.tg, sv r.nd, sv r.rc]] w fun e w' => e = .returned (.bool (plainR r.tg.2.2)) ∧ Below w.heap.size w w' := by
  have HC := hide (fun W (hb : Below w.heap.size w W) => contf_any isP 157 #[] (fun _ _ => by kernel_rfl) r.tg.1 r.tg.2.1 r.tg.2.2 W (by have := hr.t1; omega) (hr.tg.below hb) (fun W' x _ hb' => (stemIs_any x W').mono (fun e w' ⟨h1, h2⟩ => ⟨h1, h2 ▸ hb'⟩)))
  unfold plainR
  obtain ⟨b, hb⟩ : ∃ b, r.tg.2.2.any isP = b := ⟨_, rfl⟩
  rw [hb] at HC ⊢
  unfold sv
  clear hr hb
  go_enter Tryz.func128, Tryz.ntmps128
  go_wp2_with fail
  refine (HC.out _ ((Below.refl _ _).alloc (Nat.le_refl _) _)).mono ?_
  rintro e w' ⟨rfl, hb⟩
  have HB := hide (((Below.refl w.heap.size w).alloc (Nat.le_refl _) _).trans (hb.mono (by simp)))
  clear hb
  go_wp2
  go_ret
  exact ⟨rfl, HB.out⟩
theorem OwnS.below' {w w' : World} {base : Nat} {v : Value} {L : List ByteArray} (h : OwnS w base v L) (hb : Below w.heap.size w w') : OwnS w' base v L := by
  obtain ⟨h1, h2⟩ := h
  refine ⟨h1, h2.imp id ?_⟩
  rintro ⟨g, cap, cur, e, hg, hh, r⟩
  exact ⟨g, cap, cur, e, hg, (hb.block g (Array.getElem?_eq_some_iff.1 hh).1).trans hh, r⟩
theorem cellOf' {w : World} {g : Nat} {cs : Array Value} {t : TypeId} (h : w.heap[g]? = some (.cells cs t)) {j : Nat} {v : Value} (hj : cs[j]? = some v) : w.cell? ⟨g, j, none⟩ = some v := by
  simpa [World.cell?, h] using hj
set_option maxRecDepth 100000 in
set_option maxHeartbeats 2000000 in
theorem special_any (mac : Value) (A : Option Addr) (c : Nat) (L : List Rl) (name : ByteArray) (w : World) (hA : RLS w A L) (hl : L.length ≤ 1000) (hs : ∀ k, (specialR (L.take k) name).length ≤ 900000) :
    Calls Tryz.prog 108 #[.agg #[mac, .slice A L.length c], .string name] w fun e w' => (∃ v, e = .returned v ∧ OwnS w' w.heap.size v (specialR L name)) ∧ Below w.heap.size w w' := by
  have HA := hide hA
  have HS := hide hs
  obtain ⟨n, hn⟩ : ∃ n, L.length = n := ⟨_, rfl⟩
  have HN := hide hn
  rw [hn] at hl ⊢
  clear hn hA hs
  have hn1 : (n : Int) ≤ 1000 := by omega
  go_enter Tryz.func108, Tryz.ntmps108
  go_wp2
  have HB0 := hide ((Below.refl w.heap.size w).alloc (Nat.le_refl _) (.cells #[mac, .slice A n c] 26))
  generalize w.alloc (.cells #[mac, .slice A n c] 26) = W at HB0 ⊢
  go_loopw [5, 7, 11] (fun v5 _ v11 wr => ∃ k : Nat, v11 = .int .i64 k ∧ k ≤ n ∧ OwnS wr w.heap.size v5 (specialR (L.take k) name) ∧ Below w.heap.size w wr) (fun _ _ v11 _ => n - (intOf v11).toNat)
  case atStart => exact ⟨0, rfl, by omega, OwnS.nil _ _, HB0.out⟩
  case round =>
    obtain ⟨k, rfl, hk, ho, hb⟩ := hrel
    have HO := hide ho
    have HB := hide hb
    have HAR := hide (HA.out.below hb)
    clear ho hb
    by_cases hlt : k < n
    · obtain ⟨r, hr⟩ : ∃ r, L[k]? = some r := ⟨L[k]'(by have := HN.out; omega), List.getElem?_eq_getElem _⟩
      obtain ⟨g, o, rfl, hg, hc⟩ := HAR.out.1 k r hr
      have hrk := HAR.out.2 r (List.mem_of_getElem? hr)
      have HRK := hide hrk
      have hc1 : wr.cell? ⟨g, o + k * 3, none⟩ = some (sv r.tg) := by have := hc 0 _ rfl; simpa using this
      have hc2 : wr.cell? ⟨g, o + k * 3 + 1, none⟩ = some (sv r.nd) := hc 1 _ rfl
      have hc3 : wr.cell? ⟨g, o + k * 3 + 2, none⟩ = some (sv r.rc) := hc 2 _ rfl
      have HT := hide (special_take hr name)
      have hlen := HS.out (k + 1)
      rw [HT.out, List.length_append] at hlen
      have HLN := hide hlen
      have b1 : (k : Int) < (n : Int) := by omega
      have hbw : w.heap.size ≤ wr.heap.size := HB.out.size
      clear hc hr hlen hrk
      have HPL := hide (fun W (hb : Below wr.heap.size wr W) => plain_any r W (HRK.out.below hb))
      have HCT := hide (fun W (hb : Below wr.heap.size wr W) => cont_any r.tg.1 r.tg.2.1 r.tg.2.2 name W (HRK.out.tg.below hb) (by have := HRK.out.t1; omega))
      have hof : ofR name r = (plainR r.tg.2.2 && Lib.containsS r.tg.2.2 name) := rfl
      obtain ⟨p1, hp1⟩ : ∃ b, plainR r.tg.2.2 = b := ⟨_, rfl⟩
      obtain ⟨p2, hp2⟩ : ∃ b, Lib.containsS r.tg.2.2 name = b := ⟨_, rfl⟩
      rw [hp1] at HPL hof
      rw [hp2] at HCT hof
      have HOF := hide hof
      clear hof hp1 hp2
      unfold sv at hc1 hc2 hc3 HPL
      have hnb := heapNew wr (.cells #[.slice r.tg.1 r.tg.2.2.length r.tg.2.1, .slice r.nd.1 r.nd.2.2.length r.nd.2.1, .slice r.rc.1 r.rc.2.2.length r.rc.2.1] 30)
      have hba := (Below.refl wr.heap.size wr).alloc (Nat.le_refl _) (.cells #[.slice r.tg.1 r.tg.2.2.length r.tg.2.1, .slice r.nd.1 r.nd.2.2.length r.nd.2.1, .slice r.rc.1 r.rc.2.2.length r.rc.2.1] 30)
      have HNB := hide hnb
      have HBA := hide hba
      clear hnb hba
      go_wp2_with fail
      refine (HPL.out _ HBA.out).mono ?_
      rintro e w1 ⟨rfl, hb1⟩
      have hsz1 : wr.heap.size < w1.heap.size := by have h1 := HNB.out; have h2 := (Array.getElem?_eq_some_iff.1 h1).1; have := hb1.size; omega
      have hk1 := hb1.block wr.heap.size (Array.getElem?_eq_some_iff.1 HNB.out).1
      have hn1' := hk1.trans HNB.out
      have hd0 := cellOf' hn1' (j := 0) rfl
      have hd1 := cellOf' hn1' (j := 1) rfl
      have HB1 := hide (below_up HBA.out hb1 HBA.out.size)
      clear hb1 hk1 hn1'
      cases p1 with
      | false =>
        have HE := hide (show specialR (L.take (k + 1)) name = specialR (L.take k) name by rw [HT.out, HOF.out, if_neg (by simp), List.append_nil])
        go_wp2
        go_roundw
        case rel => exact ⟨k + 1, by go_num, by omega, by rw [HE.out]; exact HO.out.below' HB1.out, below_up HB.out HB1.out hbw⟩
        case measure => simp [intOf]; omega
      | true =>
        go_wp2_with fail
        refine (HCT.out _ HB1.out).mono ?_
        rintro e w' ⟨rfl, rfl⟩
        cases p2 with
        | false =>
          have HE := hide (show specialR (L.take (k + 1)) name = specialR (L.take k) name by rw [HT.out, HOF.out, if_neg (by simp), List.append_nil])
          go_wp2
          go_roundw
          case rel => exact ⟨k + 1, by go_num, by omega, by rw [HE.out]; exact HO.out.below' HB1.out, below_up HB.out HB1.out hbw⟩
          case measure => simp [intOf]; omega
        | true =>
          have HE := hide (show specialR (L.take (k + 1)) name = specialR (L.take k) name ++ r.nd.2.2 by rw [HT.out, HOF.out, if_pos (show (true && true) = true from rfl)])
          have hl2 : (specialR (L.take k) name).length + r.nd.2.2.length ≤ 1000000 := by
            have := HLN.out
            rw [HOF.out, if_pos (show (true && true) = true from rfl)] at this
            omega
          obtain ⟨v', w4, r4, o4, g4, b4⟩ := run_appS (c := r.nd.2.1) (HO.out.below' HB1.out) (HRK.out.nd.below HB1.out) (by have := HB1.out.size; omega) hl2
          have HO4 := hide o4
          have HB4 := hide ((below_up HB.out HB1.out hbw).grown g4 (by have := HB1.out.size; omega) (fun q hq => (World.ownsRow.lt HO.out q hq).1))
          clear o4 g4 b4
          go_wp2_with (at_builtin; refine wpList_app_run ?_ (.tmp 23) (.tmp 25) ?_ ?_ ?_ ?_ r4 ?_; exact rfl; exact rfl; exact rfl; exact rfl; exact rfl)
          go_roundw
          case rel => exact ⟨k + 1, by go_num, by omega, by rw [HE.out]; exact HO4.out, HB4.out⟩
          case measure => simp [intOf]; omega
    · obtain rfl : k = n := by omega
      have HF := hide (show specialR (L.take k) name = specialR L name by rw [List.take_of_length_le (by have := HN.out; omega)])
      rw [HF.out] at HO
      go_wp2
      go_ret
      exact ⟨⟨_, rfl, HO.out⟩, HB.out⟩
theorem special_len_take (L : List Rl) (name : ByteArray) (k : Nat) : (specialR (L.take k) name).length ≤ (specialR L name).length := by
  unfold specialR
  conv => rhs; rw [← List.take_append_drop k L, List.flatMap_append, List.length_append]
  omega
end Go.Proofs.YtmblmenafplccaaGreatDoor
