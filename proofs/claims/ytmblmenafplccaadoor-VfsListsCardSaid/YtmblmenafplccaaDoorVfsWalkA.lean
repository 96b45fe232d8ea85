/- Walks of the file system's kind and way. -/
import Derived.Test.YtmblmenafplccaaDoorVfsRep
import Derived.Test.YtmblmenafplccaaDoorPathWalkB
import Derived.Test.YtmblmenafplccaaDoorBytesConv
namespace Go.Proofs.YtmblmenafplccaaDoor
open Go.RowKit Go.Deep Go.Maps Ln Pth Vf
attribute [local go_sem] bt_eq

set_option maxRecDepth 100000 in
set_option maxHeartbeats 1000000 in
theorem kind_any (g : Nat) (S : St) (q : T) (w : World) (h : Hs (VS g S) w) (hq : q.length ≤ 100000) :
    Calls Tryd.prog 25 #[.pointer (some ⟨g, 0, none⟩), .string (bs q)] w fun e w' => e = .returned (.int .i64 (kindM S.m q)) ∧ Below w.heap.size w w' := by
  obtain ⟨b, P, hgb, hg, hm, hS, _⟩ := VS.opn h
  have hl := nlook hm (s := bs q) (by rw [bs_size]; omega)
  have hc0 := cellOf hg (j := 0) rfl
  have hk : kindM S.m q = if q = [47] then 2 else match getG P (bs q) with
      | none => 0
      | some e => if e.nd.dir = true then 2 else 1 := by
    unfold kindM
    rw [hS, strip_get]
    cases getG P (bs q) <;> rfl
  clear h hg hm hS
  by_cases h1 : q = [47]
  · have ht : ((bs q).toList == [47]) = true := by rw [bs_toList, h1]; rfl
    rw [if_pos h1] at hk
    have HK := hide hk
    clear hk h1
    cases hgp : getG P (bs q) with
    | none =>
      rw [hgp] at hl
      unfold valN zN at hl
      clear hgp
      simp only [Option.isSome_none] at hl
      go_enter Tryd.func25, Tryd.ntmps25
      go_wp2
      go_ret
      refine ⟨?_, (Below.refl _ _).alloc (Nat.le_refl _) _⟩
      rw [HK.out]; rfl
    | some e =>
      rw [hgp] at hl
      unfold valN encN at hl
      clear hgp
      simp only [Option.isSome_some] at hl
      go_enter Tryd.func25, Tryd.ntmps25
      go_wp2
      go_ret
      refine ⟨?_, (Below.refl _ _).alloc (Nat.le_refl _) _⟩
      rw [HK.out]; rfl
  · have ht : ((bs q).toList == [47]) = false := by rw [bs_toList]; simpa using h1
    rw [if_neg h1] at hk
    clear h1
    cases hgp : getG P (bs q) with
    | none =>
      rw [hgp] at hl hk
      unfold valN zN at hl
      have HK := hide hk
      clear hgp hk
      simp only [Option.isSome_none] at hl
      go_enter Tryd.func25, Tryd.ntmps25
      go_wp2
      go_ret
      refine ⟨?_, (Below.refl _ _).alloc (Nat.le_refl _) _⟩
      rw [HK.out]; rfl
    | some e =>
      rw [hgp] at hl hk
      unfold valN encN at hl
      clear hgp
      simp only [Option.isSome_some] at hl hk
      obtain ⟨db, hdb⟩ : ∃ d, e.nd.dir = d := ⟨_, rfl⟩
      rw [hdb] at hl hk
      have HK := hide hk
      clear hk hdb
      cases db with
      | true =>
        go_enter Tryd.func25, Tryd.ntmps25
        go_wp2
        go_ret
        refine ⟨?_, (Below.refl _ _).alloc (Nat.le_refl _) _⟩
        rw [HK.out]; rfl
      | false =>
        go_enter Tryd.func25, Tryd.ntmps25
        go_wp2
        go_ret
        refine ⟨?_, (Below.refl _ _).alloc (Nat.le_refl _) _⟩
        rw [HK.out]; rfl
theorem wayB_past (m : Mp) (q : T) : ∀ f i, q.length ≤ i → wayB m q f i = 0
  | 0, _, _ => rfl
  | f + 1, i, h => by rw [wayB, if_pos h]
set_option maxRecDepth 100000 in
set_option maxHeartbeats 1000000 in
theorem way_any (g : Nat) (S : St) (q : T) (w : World) (h : Hs (VS g S) w) (hq : q.length ≤ 100000) :
    Calls Tryd.prog 43 #[.pointer (some ⟨g, 0, none⟩), .string (bs q)] w fun e w' => e = .returned (.int .i64 (wayM S.m q)) ∧ Below w.heap.size w w' := by
  have H := hide h
  clear h
  have HK := hide (fun k W (hb : Below w.heap.size w W) => kind_any g S (q.take k) W (H.out.below (VS.fr g S) hb) (by rw [List.length_take]; omega))
  obtain ⟨R, hR⟩ : ∃ R, wayM S.m q = R := ⟨_, rfl⟩
  have HR := hide hR
  rw [hR]
  clear hR
  have hz : (bs q).size = q.length := bs_size q
  obtain ⟨n, hn⟩ : ∃ n, q.length = n := ⟨_, rfl⟩
  have HN := hide hn
  rw [hn] at hq hz
  clear hn
  have hn1 : (n : Int) ≤ 100000 := by omega
  obtain ⟨cp, W, hcv, hrg, hbw, hcp, hcp2, hsz⟩ := conv_SB w q (by rw [HN.out]; omega)
  rw [HN.out] at hcv hcp
  have HRG := hide hrg
  have HBW := hide hbw
  clear hrg hbw hcp hcp2
  go_enter Tryd.func43, Tryd.ntmps43
  go_wp2
  go_loopw [10] (fun v10 wr => ∃ k : Nat, v10 = .int .i64 k ∧ k ≤ n ∧ Hid (wayB S.m q (n - k) k = R) ∧ Below W.heap.size W wr) (fun v10 _ => n - (intOf v10).toNat)
  case atStart => exact ⟨0, rfl, by omega, by have := HR.out; unfold wayM at this; rwa [HN.out] at this, Below.refl _ _⟩
  case round =>
    obtain ⟨k, rfl, hk, HWB, hb⟩ := hrel
    have HB := hide hb
    have HBR := hide (below_up HBW.out hb HBW.out.size)
    have HRR := hide (HRG.out.below hb)
    clear hb
    by_cases hlt : k < n
    · obtain ⟨x, hx⟩ : ∃ x, q[k]? = some x := ⟨q[k]'(by have := HN.out; omega), List.getElem?_eq_getElem _⟩
      obtain ⟨gs, o, e, hg, hc⟩ := HRR.out k x hx
      injection e with e
      injection e with e1 e2
      subst e1 e2
      have hc1 : wr.cell? ⟨w.heap.size, 0 + k, none⟩ = some (.int .u8 x.toNat) := by
        have := hc 0 _ rfl
        simpa using this
      rw [Nat.zero_add] at hc1
      clear hc
      have b1 : (k : Int) < (n : Int) := by omega
      have hstep : wayB S.m q (n - k) k = if q.getD k 0 ≠ 47 ∨ k = 0 then wayB S.m q (n - (k + 1)) (k + 1) else if kindM S.m (q.take k) = 0 then 6 else if kindM S.m (q.take k) = 1 then 11 else wayB S.m q (n - (k + 1)) (k + 1) := by
        rw [show n - k = (n - (k + 1)) + 1 by omega, wayB, if_neg (by have := HN.out; omega)]
      have hxg : q.getD k 0 = x := by simp [hx]
      rw [hxg, HWB.out] at hstep
      have HST := hide hstep
      clear hx hxg hstep HWB
      have hx256 : x.toNat < 256 := x.toNat_lt
      by_cases e1 : x = 47
      · have hx47 : ((x.toNat : Int) == 47) = true := by rw [e1]; rfl
        have hx47' : ((x.toNat : Int) != 47) = false := by rw [e1]; rfl
        by_cases e2 : k = 0
        · subst e2
          have HN2 := hide (show wayB S.m q (n - (0 + 1)) (0 + 1) = R by rw [HST.out, if_pos (.inr rfl)])
          clear HST
          go_wp2
          go_roundw
          case rel => exact ⟨1, by go_num, by omega, HN2.out, HB.out⟩
          case measure => simp [intOf]; omega
        · have hk0 : ((k : Int) == 0) = false := by simpa using e2
          have HEX := hide (show (bs q).extract 0 k = bs (q.take k) by rw [ext_bs]; simp)
          have HKK := hide (HK.out k wr HBR.out)
          have hst := HST.out
          rw [if_neg (by rintro (h | h); exact h e1; exact e2 h)] at hst
          have HS2 := hide hst
          obtain ⟨kk, hkk⟩ : ∃ kk, kindM S.m (q.take k) = kk := ⟨_, rfl⟩
          rw [hkk] at HKK HS2
          clear hst HST hkk
          rw [← HEX.out] at HKK
          go_wp2_with fail
          refine HKK.out.mono ?_
          rintro e w' ⟨rfl, hb'⟩
          have HB' := hide (below_up HB.out hb' HB.out.size)
          have HBR' := hide (below_up HBR.out hb' HBR.out.size)
          clear hb'
          by_cases k0 : kk = 0
          · subst k0
            have HF := hide (show R = 6 by rw [HS2.out, if_pos rfl])
            go_wp2
            go_ret
            refine ⟨?_, HBR'.out⟩
            rw [HF.out]
            rfl
          by_cases k1 : kk = 1
          · subst k1
            have HF := hide (show R = 11 by rw [HS2.out]; rfl)
            go_wp2
            go_ret
            refine ⟨?_, HBR'.out⟩
            rw [HF.out]
            rfl
          have k0' : ((kk : Int) == 0) = false := by simp; omega
          have k1' : ((kk : Int) == 1) = false := by simp; omega
          have HF := hide (show wayB S.m q (n - (k + 1)) (k + 1) = R by rw [HS2.out, if_neg k0, if_neg k1])
          clear HS2 k0 k1
          go_wp2
          go_roundw
          case rel => exact ⟨k + 1, by go_num, by omega, HF.out, HB'.out⟩
          case measure => simp [intOf]; omega
      · have hx47 : ((x.toNat : Int) == 47) = false := by
          simp only [beq_eq_false_iff_ne]
          intro h
          apply e1
          have h2 : x.toNat = (47 : UInt8).toNat := by have : (47 : UInt8).toNat = 47 := rfl; omega
          exact UInt8.toNat_inj.1 h2
        have hx47' : ((x.toNat : Int) != 47) = true := by simpa using hx47
        have HN2 := hide (show wayB S.m q (n - (k + 1)) (k + 1) = R by rw [HST.out, if_pos (.inl e1)])
        clear HST e1
        go_wp2
        go_roundw
        case rel => exact ⟨k + 1, by go_num, by omega, HN2.out, HB.out⟩
        case measure => simp [intOf]; omega
    · obtain rfl : k = n := by omega
      have HE := hide (show (0 : Nat) = R by rw [← HWB.out, Nat.sub_self]; rfl)
      go_wp2
      go_ret
      refine ⟨?_, HBR.out⟩
      rw [← HE.out]
      rfl
end Go.Proofs.YtmblmenafplccaaDoor
