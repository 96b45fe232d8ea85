/- Walks of the file system's kind and way. Walks of the file system's abs, found, Kind, Time, room and New. Walks of the file system's room and put. -/
import Derived.Test.YtkajhdbcnmafcaaGreatDoorVfsRep
import Derived.Test.YtkajhdbcnmafcaaGreatDoorPathWalkA
import Derived.Test.YtkajhdbcnmafcaaGreatDoorBytesConv
import Derived.BigQuiet
import Derived.Deep.QuietTactic
import Derived.StillTailTactics
namespace Go.Proofs.YtkajhdbcnmafcaaGreatDoor
open Go.RowKit Go.Deep Go.Maps Ln Pth Vf
attribute [local go_sem] bt_eq

set_option maxRecDepth 100000 in
set_option maxHeartbeats 1000000 in
theorem kind_any (g : Nat) (S : St) (q : T) (w : World) (h : Hs (VS g S) w) (hq : q.length ≤ 100000) :
    Calls Tryz.prog 60 #[.pointer (some ⟨g, 0, none⟩), .string (bs q)] w fun e w' => e = .returned (.int .i64 (kindM S.m q)) ∧ Below w.heap.size w w' := by
  obtain ⟨b, P, hgb, hg, hm, hS, _⟩ := VS.opn h
  have hl := nlook hm (s := bs q) (by rw [bs_size]; omega)
  have hc0 := cellOf hg (j := 0) rfl
  have hk : kindM S.m q = if q = [47] then 2 else match getG P (bs q) with
      | none => 0
      | some e => if e.nd.dir = true then 2 else 1 := by
    unfold kindM
    rw [hS, strip_get]
    cases getG P (bs q) <;> rfl
  clear h hg hm hS
  by_cases h1 : q = [47]
  · have ht : ((bs q).toList == [47]) = true := by rw [bs_toList, h1]; rfl
    rw [if_pos h1] at hk
    have HK := hide hk
    clear hk h1
    cases hgp : getG P (bs q) with
    | none =>
      rw [hgp] at hl
      unfold valN zN at hl
      clear hgp
      simp only [Option.isSome_none] at hl
      go_enter Tryz.func60, Tryz.ntmps60
      go_wp2
      go_ret
      refine ⟨?_, (Below.refl _ _).alloc (Nat.le_refl _) _⟩
      rw [HK.out]; rfl
    | some e =>
      rw [hgp] at hl
      unfold valN encN at hl
      clear hgp
      simp only [Option.isSome_some] at hl
      go_enter Tryz.func60, Tryz.ntmps60
      go_wp2
      go_ret
      refine ⟨?_, (Below.refl _ _).alloc (Nat.le_refl _) _⟩
      rw [HK.out]; rfl
  · have ht : ((bs q).toList == [47]) = false := by rw [bs_toList]; simpa using h1
    rw [if_neg h1] at hk
    clear h1
    cases hgp : getG P (bs q) with
    | none =>
      rw [hgp] at hl hk
      unfold valN zN at hl
      have HK := hide hk
      clear hgp hk
      simp only [Option.isSome_none] at hl
      go_enter Tryz.func60, Tryz.ntmps60
      go_wp2
      go_ret
      refine ⟨?_, (Below.refl _ _).alloc (Nat.le_refl _) _⟩
      rw [HK.out]; rfl
    | some e =>
      rw [hgp] at hl hk
      unfold valN encN at hl
      clear hgp
      simp only [Option.isSome_some] at hl hk
      obtain ⟨db, hdb⟩ : ∃ d, e.nd.dir = d := ⟨_, rfl⟩
      rw [hdb] at hl hk
      have HK := hide hk
      clear hk hdb
      cases db with
      | true =>
        go_enter Tryz.func60, Tryz.ntmps60
        go_wp2
        go_ret
        refine ⟨?_, (Below.refl _ _).alloc (Nat.le_refl _) _⟩
        rw [HK.out]; rfl
      | false =>
        go_enter Tryz.func60, Tryz.ntmps60
        go_wp2
        go_ret
        refine ⟨?_, (Below.refl _ _).alloc (Nat.le_refl _) _⟩
        rw [HK.out]; rfl
theorem wayB_past (m : Mp) (q : T) : ∀ f i, q.length ≤ i → wayB m q f i = 0
  | 0, _, _ => rfl
  | f + 1, i, h => by rw [wayB, if_pos h]
set_option maxRecDepth 100000 in
set_option maxHeartbeats 1000000 in
theorem way_any (g : Nat) (S : St) (q : T) (w : World) (h : Hs (VS g S) w) (hq : q.length ≤ 100000) :
    Calls Tryz.prog 112 #[.pointer (some ⟨g, 0, none⟩), .string (bs q)] w fun e w' => e = .returned (.int .i64 (wayM S.m q)) ∧ Below w.heap.size w w' := by
  have H := hide h
  clear h
  have HK := hide (fun k W (hb : Below w.heap.size w W) => kind_any g S (q.take k) W (H.out.below (VS.fr g S) hb) (by rw [List.length_take]; omega))
  obtain ⟨R, hR⟩ : ∃ R, wayM S.m q = R := ⟨_, rfl⟩
  have HR := hide hR
  rw [hR]
  clear hR
  have hz : (bs q).size = q.length := bs_size q
  obtain ⟨n, hn⟩ : ∃ n, q.length = n := ⟨_, rfl⟩
  have HN := hide hn
  rw [hn] at hq hz
  clear hn
  have hn1 : (n : Int) ≤ 100000 := by omega
  obtain ⟨cp, W, hcv, hrg, hbw, hcp, hcp2, hsz⟩ := conv_SB w q (by rw [HN.out]; omega)
  rw [HN.out] at hcv hcp
  have HRG := hide hrg
  have HBW := hide hbw
  clear hrg hbw hcp hcp2
  go_enter Tryz.func112, Tryz.ntmps112
  go_wp2
  go_loopw [10] (fun v10 wr => ∃ k : Nat, v10 = .int .i64 k ∧ k ≤ n ∧ Hid (wayB S.m q (n - k) k = R) ∧ Below W.heap.size W wr) (fun v10 _ => n - (intOf v10).toNat)
  case atStart => exact ⟨0, rfl, by omega, by have := HR.out; unfold wayM at this; rwa [HN.out] at this, Below.refl _ _⟩
  case round =>
    obtain ⟨k, rfl, hk, HWB, hb⟩ := hrel
    have HB := hide hb
    have HBR := hide (below_up HBW.out hb HBW.out.size)
    have HRR := hide (HRG.out.below hb)
    clear hb
    by_cases hlt : k < n
    · obtain ⟨x, hx⟩ : ∃ x, q[k]? = some x := ⟨q[k]'(by have := HN.out; omega), List.getElem?_eq_getElem _⟩
      obtain ⟨gs, o, e, hg, hc⟩ := HRR.out k x hx
      injection e with e
      injection e with e1 e2
      subst e1 e2
      have hc1 : wr.cell? ⟨w.heap.size, 0 + k, none⟩ = some (.int .u8 x.toNat) := by
        have := hc 0 _ rfl
        simpa using this
      rw [Nat.zero_add] at hc1
      clear hc
      have b1 : (k : Int) < (n : Int) := by omega
      have hstep : wayB S.m q (n - k) k = if q.getD k 0 ≠ 47 ∨ k = 0 then wayB S.m q (n - (k + 1)) (k + 1) else if kindM S.m (q.take k) = 0 then 6 else if kindM S.m (q.take k) = 1 then 11 else wayB S.m q (n - (k + 1)) (k + 1) := by
        rw [show n - k = (n - (k + 1)) + 1 by omega, wayB, if_neg (by have := HN.out; omega)]
      have hxg : q.getD k 0 = x := by simp [hx]
      rw [hxg, HWB.out] at hstep
      have HST := hide hstep
      clear hx hxg hstep HWB
      have hx256 : x.toNat < 256 := x.toNat_lt
      by_cases e1 : x = 47
      · have hx47 : ((x.toNat : Int) == 47) = true := by rw [e1]; rfl
        have hx47' : ((x.toNat : Int) != 47) = false := by rw [e1]; rfl
        by_cases e2 : k = 0
        · subst e2
          have HN2 := hide (show wayB S.m q (n - (0 + 1)) (0 + 1) = R by rw [HST.out, if_pos (.inr rfl)])
          clear HST
          go_wp2
          go_roundw
          case rel => exact ⟨1, by go_num, by omega, HN2.out, HB.out⟩
          case measure => simp [intOf]; omega
        · have hk0 : ((k : Int) == 0) = false := by simpa using e2
          have HEX := hide (show (bs q).extract 0 k = bs (q.take k) by rw [ext_bs]; simp)
          have HKK := hide (HK.out k wr HBR.out)
          have hst := HST.out
          rw [if_neg (by rintro (h | h); exact h e1; exact e2 h)] at hst
          have HS2 := hide hst
          obtain ⟨kk, hkk⟩ : ∃ kk, kindM S.m (q.take k) = kk := ⟨_, rfl⟩
          rw [hkk] at HKK HS2
          clear hst HST hkk
          rw [← HEX.out] at HKK
          go_wp2_with fail
          refine HKK.out.mono ?_
          rintro e w' ⟨rfl, hb'⟩
          have HB' := hide (below_up HB.out hb' HB.out.size)
          have HBR' := hide (below_up HBR.out hb' HBR.out.size)
          clear hb'
          by_cases k0 : kk = 0
          · subst k0
            have HF := hide (show R = 6 by rw [HS2.out, if_pos rfl])
            go_wp2
            go_ret
            refine ⟨?_, HBR'.out⟩
            rw [HF.out]
            rfl
          by_cases k1 : kk = 1
          · subst k1
            have HF := hide (show R = 11 by rw [HS2.out]; rfl)
            go_wp2
            go_ret
            refine ⟨?_, HBR'.out⟩
            rw [HF.out]
            rfl
          have k0' : ((kk : Int) == 0) = false := by simp; omega
          have k1' : ((kk : Int) == 1) = false := by simp; omega
          have HF := hide (show wayB S.m q (n - (k + 1)) (k + 1) = R by rw [HS2.out, if_neg k0, if_neg k1])
          clear HS2 k0 k1
          go_wp2
          go_roundw
          case rel => exact ⟨k + 1, by go_num, by omega, HF.out, HB'.out⟩
          case measure => simp [intOf]; omega
      · have hx47 : ((x.toNat : Int) == 47) = false := by
          simp only [beq_eq_false_iff_ne]
          intro h
          apply e1
          have h2 : x.toNat = (47 : UInt8).toNat := by have : (47 : UInt8).toNat = 47 := rfl; omega
          exact UInt8.toNat_inj.1 h2
        have hx47' : ((x.toNat : Int) != 47) = true := by simpa using hx47
        have HN2 := hide (show wayB S.m q (n - (k + 1)) (k + 1) = R by rw [HST.out, if_pos (.inl e1)])
        clear HST e1
        go_wp2
        go_roundw
        case rel => exact ⟨k + 1, by go_num, by omega, HN2.out, HB.out⟩
        case measure => simp [intOf]; omega
    · obtain rfl : k = n := by omega
      have HE := hide (show (0 : Nat) = R by rw [← HWB.out, Nat.sub_self]; rfl)
      go_wp2
      go_ret
      refine ⟨?_, HBR.out⟩
      rw [← HE.out]
      rfl
end Go.Proofs.YtkajhdbcnmafcaaGreatDoor
namespace Go.Proofs.YtkajhdbcnmafcaaGreatDoor
open Go.RowKit Go.Deep Go.Maps Ln Pth Vf
attribute [local go_sem] bt_eq

theorem absF_len (p : T) : (absF [47] p).1.length ≤ 200 := by
  rcases absF_cases [47] p with ⟨l, g, e, _⟩ | ⟨e, _⟩
  · rw [e]; exact g.len
  · rw [e]; simp
theorem absS_len (S : St) (p : T) : (absS S p).1.length ≤ 200 := by
  unfold absS
  split
  · simp
  · split
    · simp
    · exact absF_len p
theorem fld0 (x y z : Value) (w : World) : (Instr.field 94 (.agg #[x, y, z]) 0).run Tryz.prog w = .ok x w := by kernel_rfl
theorem fld1 (x y z : Value) (w : World) : (Instr.field 94 (.agg #[x, y, z]) 1).run Tryz.prog w = .ok y w := by kernel_rfl
theorem fld2 (x y z : Value) (w : World) : (Instr.field 94 (.agg #[x, y, z]) 2).run Tryz.prog w = .ok z w := by kernel_rfl
theorem mkMap (w : World) : (Instr.makeMap 84 none).run Tryz.prog w = .ok (.map (some w.heap.size)) (w.alloc (.map #[] 0)) := by kernel_rfl
attribute [local go_sem] fld0 fld1 fld2 mkMap
theorem ne0 {n : Nat} (h : n ≠ 0) : ((n : Int) != 0) = true ∧ ((n : Int) == 0) = false := by
  constructor
  · simpa using h
  · simpa using h
set_option maxRecDepth 100000 in
set_option maxHeartbeats 1000000 in
theorem vabs_any (g : Nat) (S : St) (p : T) (w : World) (h : Hs (VS g S) w) (hm : MX w) (hp : p.length ≤ 50000) :
    Calls Tryz.prog 59 #[.pointer (some ⟨g, 0, none⟩), .string (bs p)] w (AbsPost (absS S p) w) := by
  have HA := hide (abs_any [47] p w hm (by simp) (by omega))
  have hl := absF_len p
  have HW := hide (fun W (hb : Below w.heap.size w W) => way_any g S (absF [47] p).1 W (h.below (VS.fr g S) hb) (by omega))
  have hR : absS S p = if (absF [47] p).2 ≠ 0 then ([], (absF [47] p).2) else if wayM S.m (absF [47] p).1 ≠ 0 then ([], wayM S.m (absF [47] p).1) else ((absF [47] p).1, 0) := rfl
  unfold AbsPost at HA
  obtain ⟨q, hq⟩ : ∃ q, (absF [47] p).1 = q := ⟨_, rfl⟩
  obtain ⟨e, he⟩ : ∃ q, (absF [47] p).2 = q := ⟨_, rfl⟩
  rw [hq] at HA HW hR hl
  rw [he] at HA hR
  obtain ⟨y, hy⟩ : ∃ y, wayM S.m q = y := ⟨_, rfl⟩
  rw [hy] at HW hR
  have HR := hide hR
  clear hR hq he hy h hm
  by_cases c1 : e = 0
  · subst c1
    go_enter Tryz.func59, Tryz.ntmps59
    go_wp2_with fail
    refine HA.out.mono ?_
    rintro e w1 ⟨rfl, hb⟩
    have HB := hide hb
    clear hb
    go_wp2_with fail
    refine (HW.out w1 HB.out).mono ?_
    rintro e w2 ⟨rfl, hb⟩
    have HB2 := hide (below_up HB.out hb HB.out.size)
    clear hb
    by_cases c2 : y = 0
    · subst c2
      have HE := hide (show absS S p = (q, 0) from HR.out)
      go_wp2
      go_ret2
      unfold AbsPost
      rw [HE.out]
      exact ⟨rfl, HB2.out⟩
    · obtain ⟨t1, t2⟩ := ne0 c2
      have HE := hide (show absS S p = ([], y) by rw [HR.out, if_neg (by simp), if_pos c2])
      clear c2
      go_wp2
      go_ret2
      unfold AbsPost
      rw [HE.out]
      exact ⟨rfl, HB2.out⟩
  · obtain ⟨t1, t2⟩ := ne0 c1
    have HE := hide (show absS S p = ([], e) by rw [HR.out, if_pos c1])
    clear c1
    go_enter Tryz.func59, Tryz.ntmps59
    go_wp2_with fail
    refine HA.out.mono ?_
    rintro e w1 ⟨rfl, hb⟩
    have HB := hide hb
    clear hb
    go_wp2
    go_ret2
    unfold AbsPost
    rw [HE.out]
    exact ⟨rfl, HB.out⟩
set_option maxRecDepth 100000 in
set_option maxHeartbeats 1000000 in
theorem vfound_any (g : Nat) (S : St) (p : T) (w : World) (h : Hs (VS g S) w) (hm : MX w) (hp : p.length ≤ 50000) :
    Calls Tryz.prog 64 #[.pointer (some ⟨g, 0, none⟩), .string (bs p)] w (AbsPost (foundS S p) w) := by
  have HA := hide (vabs_any g S p w h hm hp)
  have hl := absS_len S p
  have HK := hide (fun W (hb : Below w.heap.size w W) => kind_any g S (absS S p).1 W (h.below (VS.fr g S) hb) (by omega))
  have hR : foundS S p = ((absS S p).1, if (absS S p).2 = 0 ∧ kindM S.m (absS S p).1 = 0 then 6 else (absS S p).2) := rfl
  unfold AbsPost at HA
  obtain ⟨q, hq⟩ : ∃ q, (absS S p).1 = q := ⟨_, rfl⟩
  obtain ⟨e, he⟩ : ∃ q, (absS S p).2 = q := ⟨_, rfl⟩
  rw [hq] at HA HK hR hl
  rw [he] at HA hR
  obtain ⟨y, hy⟩ : ∃ y, kindM S.m q = y := ⟨_, rfl⟩
  rw [hy] at HK hR
  have HR := hide hR
  clear hR hq he hy h hm
  by_cases c1 : e = 0
  · subst c1
    go_enter Tryz.func64, Tryz.ntmps64
    go_wp2_with fail
    refine HA.out.mono ?_
    rintro e w1 ⟨rfl, hb⟩
    have HB := hide hb
    clear hb
    go_wp2_with fail
    refine (HK.out w1 HB.out).mono ?_
    rintro e w2 ⟨rfl, hb⟩
    have HB2 := hide (below_up HB.out hb HB.out.size)
    clear hb
    by_cases c2 : y = 0
    · subst c2
      have HE := hide (show foundS S p = (q, 6) from HR.out)
      go_wp2
      go_ret2
      unfold AbsPost
      rw [HE.out]
      exact ⟨rfl, HB2.out⟩
    · obtain ⟨t1, t2⟩ := ne0 c2
      have HE := hide (show foundS S p = (q, 0) by rw [HR.out, if_neg (by rintro ⟨_, h⟩; exact c2 h)])
      clear c2
      go_wp2
      go_ret2
      unfold AbsPost
      rw [HE.out]
      exact ⟨rfl, HB2.out⟩
  · obtain ⟨t1, t2⟩ := ne0 c1
    have HE := hide (show foundS S p = (q, e) by rw [HR.out, if_neg (by rintro ⟨h, _⟩; exact c1 h)])
    clear c1
    go_enter Tryz.func64, Tryz.ntmps64
    go_wp2_with fail
    refine HA.out.mono ?_
    rintro e w1 ⟨rfl, hb⟩
    have HB := hide hb
    clear hb
    go_wp2
    go_ret2
    unfold AbsPost
    rw [HE.out]
    exact ⟨rfl, HB.out⟩
set_option maxRecDepth 100000 in
set_option maxHeartbeats 1000000 in
theorem vkind_any (g : Nat) (S : St) (p : T) (w : World) (h : Hs (VS g S) w) (hm : MX w) (hp : p.length ≤ 50000) :
    Calls Tryz.prog 25 #[.pointer (some ⟨g, 0, none⟩), .string (bs p)] w fun e w' => e = .returned (.int .i64 (kindS S p)) ∧ Below w.heap.size w w' := by
  have HA := hide (vabs_any g S p w h hm hp)
  have hl := absS_len S p
  have HK := hide (fun W (hb : Below w.heap.size w W) => kind_any g S (absS S p).1 W (h.below (VS.fr g S) hb) (by omega))
  have hR : kindS S p = if (absS S p).2 ≠ 0 then 0 else kindM S.m (absS S p).1 := rfl
  unfold AbsPost at HA
  obtain ⟨q, hq⟩ : ∃ q, (absS S p).1 = q := ⟨_, rfl⟩
  obtain ⟨e, he⟩ : ∃ q, (absS S p).2 = q := ⟨_, rfl⟩
  rw [hq] at HA HK hR hl
  rw [he] at HA hR
  obtain ⟨y, hy⟩ : ∃ y, kindM S.m q = y := ⟨_, rfl⟩
  rw [hy] at HK hR
  have HR := hide hR
  clear hR hq he hy h hm
  by_cases c1 : e = 0
  · subst c1
    go_enter Tryz.func25, Tryz.ntmps25
    go_wp2_with fail
    refine HA.out.mono ?_
    rintro e w1 ⟨rfl, hb⟩
    have HB := hide hb
    clear hb
    go_wp2_with fail
    refine (HK.out w1 HB.out).mono ?_
    rintro e w2 ⟨rfl, hb⟩
    have HB2 := hide (below_up HB.out hb HB.out.size)
    clear hb
    go_wp2
    go_ret
    refine ⟨?_, HB2.out⟩
    rw [HR.out]
    rfl
  · obtain ⟨t1, t2⟩ := ne0 c1
    have HE := hide (show kindS S p = 0 by rw [HR.out, if_pos c1])
    clear c1
    go_enter Tryz.func25, Tryz.ntmps25
    go_wp2_with fail
    refine HA.out.mono ?_
    rintro e w1 ⟨rfl, hb⟩
    have HB := hide hb
    clear hb
    go_wp2
    go_ret
    refine ⟨?_, HB.out⟩
    rw [HE.out]
    rfl
set_option maxRecDepth 100000 in
set_option maxHeartbeats 1000000 in
theorem vtime_any (g : Nat) (S : St) (p : T) (w : World) (h : Hs (VS g S) w) (hm : MX w) (hp : p.length ≤ 50000) :
    Calls Tryz.prog 29 #[.pointer (some ⟨g, 0, none⟩), .string (bs p)] w fun e w' => e = .returned (.int .i64 (timeS S p)) ∧ Below w.heap.size w w' := by
  have HA := hide (vabs_any g S p w h hm hp)
  have hl := absS_len S p
  have hR : timeS S p = if (absS S p).2 ≠ 0 then 0 else timeM S.m (absS S p).1 := rfl
  unfold AbsPost at HA
  obtain ⟨q, hq⟩ : ∃ q, (absS S p).1 = q := ⟨_, rfl⟩
  obtain ⟨e, he⟩ : ∃ q, (absS S p).2 = q := ⟨_, rfl⟩
  rw [hq] at HA hR hl
  rw [he] at HA hR
  have HR := hide hR
  have H := hide h
  clear hR hq he h hm
  by_cases c1 : e = 0
  · subst c1
    go_enter Tryz.func29, Tryz.ntmps29
    go_wp2_with fail
    refine HA.out.mono ?_
    rintro e w1 ⟨rfl, hb⟩
    have HB := hide hb
    obtain ⟨b, P, hgb, hg, hm, hS, _⟩ := VS.opn (H.out.below (VS.fr g S) hb)
    have hlk := nlook1 hm (s := bs q) (by rw [bs_size]; omega)
    have hc0 := cellOf hg (j := 0) rfl
    have HE := hide (show timeS S p = match getG P (bs q) with
      | none => 0
      | some e => e.nd.time by
        rw [HR.out]
        simp only [ne_eq, not_true_eq_false, if_false]
        unfold timeM
        rw [hS, strip_get]
        cases getG P (bs q) <;> rfl)
    clear hb hg hm hS
    cases hgp : getG P (bs q) with
    | none =>
      rw [hgp] at hlk HE
      unfold valN zN at hlk
      clear hgp
      go_wp2
      go_ret
      refine ⟨?_, HB.out⟩
      rw [HE.out]
      rfl
    | some e =>
      rw [hgp] at hlk HE
      unfold valN encN at hlk
      clear hgp
      go_wp2
      go_ret
      refine ⟨?_, HB.out⟩
      rw [HE.out]
      rfl
  · obtain ⟨t1, t2⟩ := ne0 c1
    have HE := hide (show timeS S p = 0 by rw [HR.out, if_pos c1])
    clear c1
    go_enter Tryz.func29, Tryz.ntmps29
    go_wp2_with fail
    refine HA.out.mono ?_
    rintro e w1 ⟨rfl, hb⟩
    have HB := hide hb
    clear hb
    go_wp2
    go_ret
    refine ⟨?_, HB.out⟩
    rw [HE.out]
    rfl
set_option maxRecDepth 100000 in
set_option maxHeartbeats 1000000 in
theorem vnew_any (n b : Int) (w : World) (h1 : -9223372036854775808 ≤ n) (h2 : n ≤ 9223372036854775807) (h3 : -9223372036854775808 ≤ b) (h4 : b ≤ 9223372036854775807) :
    Calls Tryz.prog 13 #[.int .i64 n, .int .i64 b] w fun e w' => e = .returned (.pointer (some ⟨w.heap.size + 1, 0, none⟩)) ∧ Below w.heap.size w w' ∧ VS (w.heap.size + 1) (newS n b) (fun k => w.heap.size ≤ k ∧ k < w'.heap.size) (fun _ => False) w' ∧ w'.heap.size = w.heap.size + 2 := by
  have ho := World.ownsMap_made w Tryz.prog 9 hR
  have e1 : min (max (0 : Int) n) 10000 = ((newS n b).nodes : Nat) := by simp only [newS]; omega
  have e2 : min (max (0 : Int) b) 1048576 = ((newS n b).bytes : Nat) := by simp only [newS]; omega
  have E1 := hide e1
  have E2 := hide e2
  have HO := hide ho
  clear e1 e2 ho
  go_enter Tryz.func13, Tryz.ntmps13
  go_wp2
  go_ret
  have hb1 : Below w.heap.size w (w.alloc (.map #[] 0)) := (Below.refl _ _).alloc (Nat.le_refl _) _
  refine ⟨by simp, hb1.alloc (by simp) _, ?_, by simp⟩
  refine ⟨w.heap.size, [], ⟨by omega, by simp⟩, ⟨Nat.le_refl _, by simp; omega⟩, by omega, ?_, ?_, rfl, fun x hx => by cases hx⟩
  · have := heapNew (w.alloc (.map #[] 0)) (.cells #[.map (some w.heap.size), .int .i64 (min (max 0 n) 10000), .int .i64 (min (max 0 b) 1048576), .int .i64 0, .int .i64 0] 86)
    rw [← E1.out, ← E2.out, show ((newS n b).used : Int) = 0 from rfl, show ((newS n b).clock : Int) = 0 from rfl]
    simpa using this
  · exact MapN.of (w := w.alloc (.map #[] 0)) (own_tightN (P := []) HO.out) (Below.heap_alloc _ _ _ (by simp))
end Go.Proofs.YtkajhdbcnmafcaaGreatDoor
namespace Go.Proofs.YtkajhdbcnmafcaaGreatDoor
open Go.RowKit Go.Deep Go.Maps Ln Pth Vf
attribute [local go_sem] bt_eq fld0 fld1 fld2 mkMap

set_option maxRecDepth 100000 in
set_option maxHeartbeats 1000000 in
theorem room_any (g : Nat) (S : St) (hS : WfS S) (nodes : Nat) (grows : Int) (w : World) (h : Hs (VS g S) w) (hn : nodes ≤ 10) (h1 : -4000000 ≤ grows) (h2 : grows ≤ 4000000) :
    Calls Tryz.prog 61 #[.pointer (some ⟨g, 0, none⟩), .int .i64 nodes, .int .i64 grows] w fun e w' => e = .returned (.bool (decide ((S.m.length + nodes : Nat) ≤ S.nodes ∧ (S.used : Int) + grows ≤ (S.bytes : Int)))) ∧ Drew w w' := by
  obtain ⟨b, P, hgb, hg, hm, hsm, _⟩ := VS.opn h
  have hlen := nlen (hm.of (w' := w.drew) rfl) 3
  have hc0 := cellOf hg (j := 0) rfl
  have hc1 := cellOf hg (j := 1) rfl
  have hc2 := cellOf hg (j := 2) rfl
  have hc3 := cellOf hg (j := 3) rfl
  have b1 := hS.nodes
  have b2 := hS.bytes
  have b3 := hS.n10
  have b4 := hS.b20
  have hpl : S.m.length = P.length := by rw [hsm, strip_len]
  rw [hpl] at b1 ⊢
  obtain ⟨m, hm'⟩ : ∃ m, P.length = m := ⟨_, rfl⟩
  obtain ⟨sn, hsn⟩ : ∃ m, S.nodes = m := ⟨_, rfl⟩
  obtain ⟨sb, hsb⟩ : ∃ m, S.bytes = m := ⟨_, rfl⟩
  obtain ⟨su, hsu⟩ : ∃ m, S.used = m := ⟨_, rfl⟩
  rw [hm'] at hlen b1 ⊢
  rw [hsn] at hc1 b1 b3 ⊢
  rw [hsb] at hc2 b2 b4 ⊢
  rw [hsu] at hc3 b2 ⊢
  clear h hS hg hm hsm hpl hm' hsn hsb hsu
  have hn1 : (nodes : Int) ≤ 10 := by omega
  have hm1 : (m : Int) ≤ 10000 := by omega
  have hu1 : (su : Int) ≤ 1048576 := by omega
  have k1 : (m : Int) + (nodes : Int) = ((m + nodes : Nat) : Int) := by omega
  have w1 : IntKind.i64.wrap ((m : Int) + (nodes : Int)) = (m : Int) + (nodes : Int) := IntWalk.i64_in _ (by omega)
  have w2 : IntKind.i64.wrap ((su : Int) + grows) = (su : Int) + grows := IntWalk.i64_in _ (by omega)
  by_cases c1 : m + nodes ≤ sn
  · have d1 : (m : Int) + (nodes : Int) ≤ (sn : Int) := by omega
    by_cases c2 : (su : Int) + grows ≤ (sb : Int)
    · have HE := hide (show decide (m + nodes ≤ sn ∧ (su : Int) + grows ≤ (sb : Int)) = true from decide_eq_true ⟨c1, c2⟩)
      clear c1 k1
      go_enter Tryz.func61, Tryz.ntmps61
      go_wp2
      go_region
      go_wp2
      go_ret
      rw [HE.out]
      exact ⟨rfl, ⟨_, rfl⟩⟩
    · have HE := hide (show decide (m + nodes ≤ sn ∧ (su : Int) + grows ≤ (sb : Int)) = false from decide_eq_false (fun h => c2 h.2))
      have d2 : decide ((su : Int) + grows ≤ (sb : Int)) = false := by simp; omega
      clear c1 k1 c2
      go_enter Tryz.func61, Tryz.ntmps61
      go_wp2
      go_region
      go_wp2
      go_ret
      rw [HE.out]
      exact ⟨rfl, ⟨_, rfl⟩⟩
  · have d1 : decide ((m : Int) + (nodes : Int) ≤ (sn : Int)) = false := by simp; omega
    have HE := hide (show decide (m + nodes ≤ sn ∧ (su : Int) + grows ≤ (sb : Int)) = false from decide_eq_false (fun h => c1 h.1))
    clear c1 k1
    go_enter Tryz.func61, Tryz.ntmps61
    go_wp2
    go_region
    go_wp2
    go_ret
    rw [HE.out]
    exact ⟨rfl, ⟨_, rfl⟩⟩
theorem heapSet {w : World} {g j : Nat} {cs : Array Value} {t : TypeId} (h : w.heap[g]? = some (.cells cs t)) (v : Value) : (w.setCell ⟨g, j, none⟩ v).heap[g]? = some (.cells (cs.setIfInBounds j v) t) := by
  unfold World.setCell
  simp [Array.getElem?_modify, h]
set_option maxRecDepth 100000 in
set_option maxHeartbeats 1000000 in
theorem put_any (g : Nat) (S : St) (q : T) (e : En) (T N : Nat → Prop) (w : World) (h : VS g S T N w) (ok : OkTN T N w) (hr : RiseG S.m) (hl : S.m.length ≤ 100000) (hq : q.length ≤ 100000) (hc : S.clock ≤ 1000000000) (hd : RG encB 1 w e.A e.nd.data) (hN : ∀ a, e.A = some a → N a.block) :
    Calls Tryz.prog 62 #[.pointer (some ⟨g, 0, none⟩), .string (bs q), encN e] w fun e' w' => e' = .returned (.tuple #[]) ∧ VS g (Vf.putS S q e.nd.dir e.nd.data) T N w' ∧ Kp w w' T := by
  obtain ⟨b, P, h1, h2, hgb, hg, hm, hsm, hx⟩ := h
  have hc0 := cellOf hg (j := 0) rfl
  have hc4 := cellOf hg (j := 4) rfl
  have hf4 := freeOf hg 4
  have hgl := (ok.1 g h1).1
  have hbl := (ok.1 b h2).1
  have hck : (S.clock : Int) ≤ 1000000000 := by omega
  unfold encN
  go_enter Tryz.func62, Tryz.ntmps62
  go_wp2
  obtain ⟨W3, hW3⟩ : ∃ W, (w.setCell ⟨g, 4, none⟩ (.int .i64 ((S.clock : Int) + 1))).alloc (.cells #[.bool e.nd.dir, .slice e.A e.nd.data.length e.c, .int .i64 ((S.clock : Int) + 1)] 94) = W := ⟨_, rfl⟩
  have hsz3 : W3.heap.size = w.heap.size + 1 := by rw [← hW3]; simp
  have hk3 : Kp w W3 (fun k => k = g) := by
    rw [← hW3]
    refine ⟨rfl, rfl, rfl, by simp, fun k hk hne => ?_⟩
    rw [Below.heap_alloc _ _ _ (by simpa using hk)]
    exact Below.heap_setCell _ _ _ _ (by simpa using hne)
  have hg3 : W3.heap[g]? = some (.cells #[.map (some b), .int .i64 S.nodes, .int .i64 S.bytes, .int .i64 S.used, .int .i64 ((S.clock : Int) + 1)] 86) := by
    rw [← hW3, Below.heap_alloc _ _ _ (by simpa using hgl)]
    exact heapSet hg _
  have hb3 : W3.heap[b]? = w.heap[b]? := hk3.block b hbl (fun e => hgb e.symm)
  have hn3 := heapNew (w.setCell ⟨g, 4, none⟩ (.int .i64 ((S.clock : Int) + 1))) (.cells #[.bool e.nd.dir, .slice e.A e.nd.data.length e.c, .int .i64 ((S.clock : Int) + 1)] 94)
  rw [hW3, World.size_setCell] at hn3
  rw [hW3]
  have hc30 := cellOf hg3 (j := 0) rfl
  have hx0 := cellOf hn3 (j := 0) rfl
  have hx1 := cellOf hn3 (j := 1) rfl
  have hx2 := cellOf hn3 (j := 2) rfl
  have hrP : RiseG P := strip_rise.1 (hsm ▸ hr)
  have hlP : P.length ≤ 100000 := by rw [← strip_len, ← hsm]; exact hl
  obtain ⟨w4, hrun, hm4, hk4, hsz4⟩ := nstore (w := W3.drew) (hm.of (hb3.trans rfl)) hrP (by omega) (s := bs q) (by rw [bs_size]; omega) ⟨e.A, e.c, ⟨e.nd.dir, e.nd.data, S.clock + 1⟩⟩
  unfold encN at hrun
  simp only at hrun
  rw [show ((S.clock + 1 : Nat) : Int) = (S.clock : Int) + 1 by omega] at hrun
  have HM4 := hide hm4
  have HK4 := hide hk4
  have HG3 := hide hg3
  have HK3 := hide hk3
  have HSM := hide hsm
  have HX := hide hx
  clear hm4 hk4 hg3 hk3 hsm hx hm hg hb3 hn3 hW3 hc0 hc4
  go_region
  go_end0
  have hkT : Kp w w4 T := by
    have h3 : Kp w W3.drew (fun k => k = g) := ⟨HK3.out.os, HK3.out.tape, HK3.out.output, HK3.out.size, HK3.out.block⟩
    have h4 := (h3.mono (S' := T) (fun k e => by subst e; exact h1)).trans (HK4.out.mono (fun k e => by subst e; exact .inl h2))
    exact h4
  refine ⟨rfl, ⟨b, putG (bs q, ⟨e.A, e.c, ⟨e.nd.dir, e.nd.data, S.clock + 1⟩⟩) P, h1, h2, hgb, ?_, HM4.out, ?_, ?_⟩, hkT⟩
  · have := (HK4.out.block g (show g < W3.heap.size by omega) (fun e => hgb e)).trans HG3.out
    rw [this]
    rfl
  · show putG (bs q, _) S.m = _
    rw [strip_put, HSM.out]
  · intro x hx
    have hdk : ∀ (A : Option Addr) (D : List UInt8), RG encB 1 w A D → (∀ a, A = some a → N a.block) → RG encB 1 w4 A D := fun A D h hn => h.of hkT.size (fun a ea hlt => hkT.block a.block hlt (fun ht => (ok.1 _ ht).2 (hn a ea)))
    rcases mem_putG hx with rfl | hx
    · exact ⟨hdk _ _ hd hN, hN⟩
    · exact ⟨hdk _ _ (HX.out x hx).1 (HX.out x hx).2, (HX.out x hx).2⟩
end Go.Proofs.YtkajhdbcnmafcaaGreatDoor
