/- Walks of the file system's Mkdir and Touch. -/
import Derived.Test.YtmblmenafplccaaDoorVfsWalkD
namespace Go.Proofs.YtmblmenafplccaaDoor
open Go.RowKit Go.Deep Go.Maps Ln Pth Vf
attribute [local go_sem] bt_eq fld0 fld1 fld2 mkMap

theorem FsPost.later {g : Nat} {r : St × Nat} {T N : Nat → Prop} {w w1 w' : World} {e : Ending} (hb : Below w.heap.size w w1) (h : FsPost g r T N w1 e w') : FsPost g r T N w e w' := by
  obtain ⟨h1, N', hv, ⟨g1, g2, g3, g4⟩, hk⟩ := h
  have hs := hb.size
  exact ⟨h1, N', hv, ⟨fun k h => .inl h, g2, fun k h => (g3 k h).imp_right (Nat.le_trans hs), g4⟩, (Kp.of_below hb T).trans (hk.mono (fun k h => .inl h))⟩
set_option maxRecDepth 100000 in
/-- the node that is at a path -/
theorem node_in {g : Nat} {S : St} {T N : Nat → Prop} {w : World} (h : VS g S T N w) (q : List UInt8) (n : Nd) (hn : getG S.m (bs q) = some n) (hq : q.length ≤ 100000) : ∃ (b : Nat) (e : En), e.nd = n ∧ w.cell? ⟨g, 0, none⟩ = some (.map (some b)) ∧
    (Instr.lookup 57 (.map (some b)) (.string (bs q)) false).run Tryd.prog w = .ok (encN e) w ∧ RG encB 1 w e.A e.nd.data ∧ ∀ a, e.A = some a → N a.block := by
  obtain ⟨b, P, h1, h2, hgb, hg, hm, hS, hx⟩ := h
  have hlk := nlook1 hm (s := bs q) (by rw [bs_size]; omega)
  rw [hS, strip_get] at hn
  cases hgp : getG P (bs q) with
  | none => rw [hgp] at hn; cases hn
  | some e =>
    rw [hgp] at hn hlk
    injection hn with hn
    exact ⟨b, e, hn, cellOf hg (j := 0) rfl, hlk, hx _ (getG_mem hgp)⟩
set_option maxRecDepth 100000 in
set_option maxHeartbeats 2000000 in
theorem mkdir_any (g : Nat) (S : St) (p : T) (T N : Nat → Prop) (w : World) (h : VS g S T N w) (ok : OkTN T N w) (hS : WfS S) (hm : MX w) (hp : p.length ≤ 50000) (hck : S.clock ≤ 1000000000) :
    Calls Tryd.prog 15 #[.pointer (some ⟨g, 0, none⟩), .string (bs p)] w (FsPost g (mkdirS S p) T N w) := by
  have HH : Hs (VS g S) w := ⟨T, N, h, ok⟩
  have HA := hide (vabs_any g S p w HH hm hp)
  have hl := absS_len S p
  have hR : mkdirS S p = if (absS S p).2 ≠ 0 then (S, (absS S p).2) else if kindM S.m (absS S p).1 ≠ 0 then (S, 12) else if S.m.length + 1 ≤ S.nodes ∧ S.used ≤ S.bytes then (putS S (absS S p).1 true [], 0) else (S, 13) := rfl
  unfold AbsPost at HA
  obtain ⟨q, hq⟩ : ∃ q, (absS S p).1 = q := ⟨_, rfl⟩
  obtain ⟨e, he⟩ : ∃ q, (absS S p).2 = q := ⟨_, rfl⟩
  rw [hq] at HA hR hl
  rw [he] at HA hR
  have HK := hide (fun W (hb : Below w.heap.size w W) => kind_any g S q W (HH.below (VS.fr g S) hb) (by omega))
  have HROOM := hide (fun W (hb : Below w.heap.size w W) => room_int g S hS 1 0 W (HH.below (VS.fr g S) hb) (by omega) (by omega) (by omega) (by omega))
  obtain ⟨kk, hkk⟩ : ∃ y, kindM S.m q = y := ⟨_, rfl⟩
  rw [hkk] at HK hR
  have HR := hide hR
  have H := hide h
  have OK := hide ok
  have HWF := hide hS
  clear hR he h ok hS HH hq hm hkk
  by_cases c1 : e = 0
  case neg =>
    obtain ⟨t1, t2⟩ := ne0 c1
    have HE := hide (HR.out.trans (if_pos c1))
    clear c1
    go_enter Tryd.func15, Tryd.ntmps15
    go_wp2_with fail
    refine HA.out.mono ?_
    rintro e w1 ⟨rfl, hb⟩
    have HB := hide hb
    clear hb
    go_wp2
    go_ret
    rw [HE.out]
    exact FsPost.stay H.out OK.out HB.out
  subst c1
  have hRQ := HR.out.trans (if_neg (by simp))
  by_cases k0 : kk = 0
  case neg =>
    obtain ⟨t1, t2⟩ := ne0 k0
    have HE := hide (hRQ.trans (if_pos k0))
    clear k0 hRQ
    go_enter Tryd.func15, Tryd.ntmps15
    go_wp2_with fail
    refine HA.out.mono ?_
    rintro e w1 ⟨rfl, hb⟩
    have HB := hide hb
    clear hb
    go_wp2_with fail
    refine (HK.out w1 HB.out).mono ?_
    rintro e w2 ⟨rfl, hb⟩
    have HB2 := hide (below_up HB.out hb HB.out.size)
    clear hb
    go_wp2
    go_ret
    rw [HE.out]
    exact FsPost.stay H.out OK.out HB2.out
  subst k0
  have HRQ := hide (hRQ.trans (if_neg (by simp)))
  clear hRQ
  go_enter Tryd.func15, Tryd.ntmps15
  go_wp2_with fail
  refine HA.out.mono ?_
  rintro e w1 ⟨rfl, hb⟩
  have HB := hide hb
  clear hb
  go_wp2_with fail
  refine (HK.out w1 HB.out).mono ?_
  rintro e w2 ⟨rfl, hb⟩
  have HB2 := hide (below_up HB.out hb HB.out.size)
  clear hb
  go_wp2_with fail
  refine (HROOM.out w2 HB2.out).mono ?_
  rintro e w3 ⟨rfl, hd⟩
  have HB3 := hide (below_up HB2.out hd.below HB2.out.size)
  clear hd
  obtain ⟨rb, hrb⟩ : ∃ rb, decide ((S.m.length : Int) + 1 ≤ S.nodes ∧ (S.used : Int) + 0 ≤ (S.bytes : Int)) = rb := ⟨_, rfl⟩
  rw [hrb]
  have HRB := hide (show rb = true ↔ (S.m.length + 1 ≤ S.nodes ∧ S.used ≤ S.bytes) by rw [← hrb, decide_eq_true_iff]; omega)
  clear hrb
  cases rb with
  | false =>
    have HE := hide (HRQ.out.trans (if_neg (fun h => by have := HRB.out.2 h; cases this)))
    go_wp2
    go_ret
    rw [HE.out]
    exact FsPost.stay H.out OK.out HB3.out
  | true =>
    have HE := hide (HRQ.out.trans (if_pos (HRB.out.1 rfl)))
    obtain ⟨hv3, ok3⟩ := H.out.stay OK.out HB3.out
    have HP := put_any g S q ⟨none, 0, ⟨true, [], 0⟩⟩ T N w3 hv3 ok3 HWF.out.rise (by have := HWF.out.nodes; have := HWF.out.n10; omega) (by omega) hck (RG.nil _ _) (fun a e => by cases e)
    unfold encN at HP
    simp only [List.length_nil] at HP
    rw [show ((0 : Nat) : Int) = 0 from rfl] at HP
    have HPP := hide HP
    have OK3 := hide ok3
    clear HP hv3 ok3
    go_wp2_with fail
    refine HPP.out.mono ?_
    rintro e w6 ⟨rfl, hv6, hk6⟩
    have HV6 := hide hv6
    have HK6 := hide hk6
    clear hv6 hk6
    go_wp2
    go_ret
    rw [HE.out]
    exact ⟨rfl, N, HV6.out, GrowN.refl OK.out (Nat.le_trans HB3.out.size HK6.out.size), (Kp.of_below HB3.out T).trans (HK6.out.mono (fun k h => .inl h))⟩
set_option maxRecDepth 100000 in
set_option maxHeartbeats 2000000 in
theorem touch_any (g : Nat) (S : St) (p : T) (T N : Nat → Prop) (w : World) (h : VS g S T N w) (ok : OkTN T N w) (hS : WfS S) (hm : MX w) (hp : p.length ≤ 50000) (hby : S.bytes ≤ 400000) (hck : S.clock ≤ 1000000000) :
    Calls Tryd.prog 17 #[.pointer (some ⟨g, 0, none⟩), .string (bs p)] w (FsPost g (touchS S p) T N w) := by
  have HH : Hs (VS g S) w := ⟨T, N, h, ok⟩
  have HA := hide (vabs_any g S p w HH hm hp)
  have hl := absS_len S p
  have hR : touchS S p = if (absS S p).2 ≠ 0 then (S, (absS S p).2) else if (absS S p).1 = [47] then (S, 0) else match getG S.m (bs (absS S p).1) with
    | none => writeS S p [] false
    | some n => (putS S (absS S p).1 n.dir n.data, 0) := rfl
  unfold AbsPost at HA
  obtain ⟨q, hq⟩ : ∃ q, (absS S p).1 = q := ⟨_, rfl⟩
  obtain ⟨e, he⟩ : ∃ q, (absS S p).2 = q := ⟨_, rfl⟩
  rw [hq] at HA hR hl
  rw [he] at HA hR
  have HK := hide (fun W (hb : Below w.heap.size w W) => kind_any g S q W (HH.below (VS.fr g S) hb) (by omega))
  have HW := hide (fun W (hb : Below w.heap.size w W) => (write_any g S p [] false none 0 T N W (h.stay ok hb).1 (h.stay ok hb).2 hS (hm.below hb) hp hby (by simp) hck (RG.nil _ _)).mono (fun _ _ h => FsPost.later hb h))
  have HR := hide hR
  have H := hide h
  have OK := hide ok
  have HWF := hide hS
  clear hR he h ok hS HH hq hm
  by_cases c1 : e = 0
  case neg =>
    obtain ⟨t1, t2⟩ := ne0 c1
    have HE := hide (HR.out.trans (if_pos c1))
    clear c1
    go_enter Tryd.func17, Tryd.ntmps17
    go_wp2_with fail
    refine HA.out.mono ?_
    rintro e w1 ⟨rfl, hb⟩
    have HB := hide hb
    clear hb
    go_wp2
    go_ret
    rw [HE.out]
    exact FsPost.stay H.out OK.out HB.out
  subst c1
  have hRQ := HR.out.trans (if_neg (by simp))
  by_cases q1 : q = [47]
  · have ht : ((bs q).toList == [47]) = true := by rw [bs_toList, q1]; rfl
    have HE := hide (hRQ.trans (if_pos q1))
    clear hRQ q1
    go_enter Tryd.func17, Tryd.ntmps17
    go_wp2_with fail
    refine HA.out.mono ?_
    rintro e w1 ⟨rfl, hb⟩
    have HB := hide hb
    clear hb
    go_wp2
    go_ret
    rw [HE.out]
    exact FsPost.stay H.out OK.out HB.out
  have ht : ((bs q).toList == [47]) = false := by rw [bs_toList]; simpa using q1
  have hRR := hRQ.trans (if_neg q1)
  clear hRQ
  cases hgn : getG S.m (bs q) with
  | none =>
    rw [hgn] at hRR
    have hk : kindM S.m q = 0 := by unfold kindM; rw [if_neg q1, hgn]
    rw [hk] at HK
    have HE := hide hRR
    clear hRR q1 hk hgn
    go_enter Tryd.func17, Tryd.ntmps17
    go_wp2_with fail
    refine HA.out.mono ?_
    rintro e w1 ⟨rfl, hb⟩
    have HB := hide hb
    clear hb
    go_wp2_with fail
    refine (HK.out w1 HB.out).mono ?_
    rintro e w2 ⟨rfl, hb⟩
    have HB2 := hide (below_up HB.out hb HB.out.size)
    clear hb
    have HW2 := HW.out w2 HB2.out
    have HW3 := hide HW2
    clear HW2
    obtain ⟨r, hr⟩ : ∃ r, writeS S p [] false = r := ⟨_, rfl⟩
    rw [hr] at HW3 HE
    unfold FsPost at HW3
    clear hr
    go_wp2_with fail
    refine HW3.out.mono ?_
    rintro e w3 ⟨rfl, h3⟩
    have H3 := hide h3
    clear h3
    go_wp2
    go_ret
    rw [HE.out]
    exact ⟨rfl, H3.out⟩
  | some n =>
    rw [hgn] at hRR
    have hk : kindM S.m q ≠ 0 := by unfold kindM; rw [if_neg q1, hgn]; simp only; split <;> simp
    obtain ⟨kk, hkk⟩ : ∃ y, kindM S.m q = y := ⟨_, rfl⟩
    rw [hkk] at HK hk
    obtain ⟨t1, t2⟩ := ne0 hk
    have HE := hide hRR
    have HGN := hide hgn
    clear hRR q1 hk hgn hkk
    go_enter Tryd.func17, Tryd.ntmps17
    go_wp2_with fail
    refine HA.out.mono ?_
    rintro e w1 ⟨rfl, hb⟩
    have HB := hide hb
    clear hb
    go_wp2_with fail
    refine (HK.out w1 HB.out).mono ?_
    rintro e w2 ⟨rfl, hb⟩
    have HB2 := hide (below_up HB.out hb HB.out.size)
    clear hb
    obtain ⟨hv2, ok2⟩ := H.out.stay OK.out HB2.out
    obtain ⟨bm, en, hen, hc0, hlk, hr2, hn2⟩ := node_in hv2 q n HGN.out (by omega)
    have HP := put_any g S q en T N w2 hv2 ok2 HWF.out.rise (by have := HWF.out.nodes; have := HWF.out.n10; omega) (by omega) hck hr2 hn2
    rw [hen] at HP
    have HPP := hide HP
    clear HP hv2 ok2 hr2 hn2 hen
    obtain ⟨ev, hev⟩ : ∃ v, encN en = v := ⟨_, rfl⟩
    rw [hev] at HPP hlk
    clear hev
    go_wp2_with fail
    refine HPP.out.mono ?_
    rintro e w6 ⟨rfl, hv6, hk6⟩
    have HV6 := hide hv6
    have HK6 := hide hk6
    clear hv6 hk6
    go_wp2
    go_ret
    rw [HE.out]
    exact ⟨rfl, N, HV6.out, GrowN.refl OK.out (Nat.le_trans HB2.out.size HK6.out.size), (Kp.of_below HB2.out T).trans (HK6.out.mono (fun k h => .inl h))⟩
end Go.Proofs.YtmblmenafplccaaDoor
