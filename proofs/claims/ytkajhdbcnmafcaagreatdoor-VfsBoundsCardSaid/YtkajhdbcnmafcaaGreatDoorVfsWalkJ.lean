/- Walk of the file system's Move. -/
import Derived.Test.YtkajhdbcnmafcaaGreatDoorVfsWalkH
import Derived.Test.YtkajhdbcnmafcaaGreatDoorVfsWalkI
namespace Go.Proofs.YtkajhdbcnmafcaaGreatDoor
open Go.RowKit Go.Deep Go.Maps Ln Pth Vf
set_option linter.unusedSimpArgs false
set_option linter.unusedVariables false
attribute [local go_sem] bt_eq fld0 fld1 fld2 mkMap

def enZ : En := ⟨none, 0, nodeZ⟩
theorem valN_enc (o : Option En) : valN o = encN (o.getD enZ) := by
  cases o <;> rfl
theorem VS.kept {g : Nat} {T N : Nat → Prop} {w w' : World} {b : Nat} {P' : KV En} {S' : St} (h1 : T g) (h2 : T b) (hgb : g ≠ b) (ok : OkTN T N w) (hk : Kp w w' T)
    (hg : w'.heap[g]? = some (.cells #[.map (some b), .int .i64 S'.nodes, .int .i64 S'.bytes, .int .i64 S'.used, .int .i64 S'.clock] 86)) (hm : MapN w' b P') (hsm : S'.m = stripN P')
    (hx : ∀ x ∈ P', RG encB 1 w x.2.A x.2.nd.data ∧ ∀ a, x.2.A = some a → N a.block) : VS g S' T N w' :=
  ⟨b, P', h1, h2, hgb, hg, hm, hsm, fun x hxm => ⟨(hx x hxm).1.of hk.size (fun a ea hl => hk.block a.block hl (fun ht => (ok.1 _ ht).2 ((hx x hxm).2 a ea))), (hx x hxm).2⟩⟩
set_option maxRecDepth 100000 in
/-- a node is taken away -/
theorem mv_del (g : Nat) (S : St) (q : T) (T N : Nat → Prop) (w : World) (h : VS g S T N w) (ok : OkTN T N w) (hq : q.length ≤ 100000) :
    ∃ b w', w.cell? ⟨g, 0, none⟩ = some (.map (some b)) ∧ (Builtin.delete_ #[84, 9] 0 #[.map (some b), .string (bs q)]).run Tryz.prog w = .ok (.tuple #[]) w' ∧ VS g { S with m := delG (bs q) S.m } T N w' ∧ Kp w w' T := by
  obtain ⟨b, P, h1, h2, hgb, hg, hm, hsm, hx⟩ := h
  obtain ⟨w', hrun, hm', hk, hsz⟩ := ndrop hm (s := bs q) (by rw [bs_size]; omega) 0
  have hkT : Kp w w' T := hk.mono (fun k e => e ▸ h2)
  refine ⟨b, w', cellOf hg (j := 0) rfl, hrun, VS.kept h1 h2 hgb ok hkT ((hk.block g (ok.1 g h1).1 hgb).trans hg) hm' (by rw [strip_del, ← hsm]) (fun x hxm => ?_), hkT⟩
  unfold delG at hxm
  exact hx x (List.mem_filter.1 hxm).1
set_option maxRecDepth 100000 in
/-- a node is moved -/
theorem mv_step (g : Nat) (S : St) (a b q : T) (T N : Nat → Prop) (w : World) (h : VS g S T N w) (ok : OkTN T N w) (hr : RiseG S.m) (hl : S.m.length ≤ 100000) (hq : q.length ≤ 100000) (ht : (tgt a b q).length ≤ 100000) :
    ∃ bm v w2 w3, w.cell? ⟨g, 0, none⟩ = some (.map (some bm)) ∧ (Instr.lookup 84 (.map (some bm)) (.string (bs q)) false).run Tryz.prog w.drew = .ok v w.drew ∧
      (Instr.mapUpdate 84 (.map (some bm)) (.string (bs (tgt a b q))) v).run Tryz.prog w.drew = .ok () w2 ∧ w2.cell? ⟨g, 0, none⟩ = some (.map (some bm)) ∧
      (Builtin.delete_ #[84, 9] 0 #[.map (some bm), .string (bs q)]).run Tryz.prog w2 = .ok (.tuple #[]) w3 ∧ VS g { S with m := mvStep a b S.m q } T N w3 ∧ Kp w w3 T := by
  have hb := (Below.refl w.heap.size w).drew
  obtain ⟨hd, okd⟩ := h.stay ok hb
  obtain ⟨bm, P, h1, h2, hgb, hg, hm, hsm, hx⟩ := hd
  have hlk := nlook1 hm (s := bs q) (by rw [bs_size]; omega)
  rw [valN_enc] at hlk
  have hrP : RiseG P := strip_rise.1 (hsm ▸ hr)
  have hlP : P.length ≤ 100000 := by rw [← strip_len, ← hsm]; exact hl
  obtain ⟨w2, hrun, hm2, hk2, hsz2⟩ := nstore hm hrP (by omega) (s := bs (tgt a b q)) (by rw [bs_size]; omega) ((getG P (bs q)).getD enZ)
  have hkT : Kp w.drew w2 T := hk2.mono (fun k e => e ▸ h2)
  have hen : ((getG P (bs q)).getD enZ).nd = (getG S.m (bs q)).getD nodeZ := by
    rw [hsm, strip_get]
    cases getG P (bs q) <;> rfl
  have hv2 : VS g { S with m := putG (bs (tgt a b q), (getG S.m (bs q)).getD nodeZ) S.m } T N w2 := by
    refine VS.kept h1 h2 hgb okd hkT ((hk2.block g (okd.1 g h1).1 hgb).trans hg) hm2 ?_ (fun x hxm => ?_)
    · rw [strip_put]
      dsimp only
      rw [hen, ← hsm]
    · rcases mem_putG hxm with rfl | hxm
      · dsimp only
        cases hgp : getG P (bs q) with
        | none => exact ⟨RG.nil _ _, fun a e => by cases e⟩
        | some e => exact hx _ (getG_mem hgp)
      · exact hx x hxm
  have ok2 : OkTN T N w2 := (GrowN.refl okd hkT.size).2.2.2
  obtain ⟨b2, w3, hc2, hdel, hv3, hk3⟩ := mv_del g _ q T N w2 hv2 ok2 hq
  have hbm : w2.cell? ⟨g, 0, none⟩ = some (.map (some bm)) := cellOf ((hk2.block g (okd.1 g h1).1 hgb).trans hg) (j := 0) rfl
  rw [hbm] at hc2
  injection hc2 with hc2
  injection hc2 with hc2
  injection hc2 with hc2
  subst hc2
  refine ⟨bm, _, w2, w3, cellOf (show w.heap[g]? = _ from hg) (j := 0) rfl, hlk, hrun, hbm, hdel, hv3, ?_⟩
  have e1 : Kp w w2 T := (Kp.of_below hb T).trans (hkT.mono fun k h => .inl h)
  exact e1.trans (hk3.mono fun k h => .inl h)
set_option maxRecDepth 100000 in
/-- the node itself, put at its new path -/
theorem mv_put (g : Nat) (S : St) (a b : T) (T N : Nat → Prop) (w : World) (h : VS g S T N w) (ok : OkTN T N w) (hr : RiseG S.m) (hl : S.m.length ≤ 100000) (ha : a.length ≤ 100000) (hb : b.length ≤ 100000) (hc : S.clock ≤ 1000000000) :
    ∃ bm v, w.cell? ⟨g, 0, none⟩ = some (.map (some bm)) ∧ (Instr.lookup 84 (.map (some bm)) (.string (bs a)) false).run Tryz.prog w = .ok v w ∧
      Calls Tryz.prog 62 #[.pointer (some ⟨g, 0, none⟩), .string (bs b), v] w fun e' w' => e' = .returned (.tuple #[]) ∧ VS g (Vf.putS S b ((getG S.m (bs a)).getD nodeZ).dir ((getG S.m (bs a)).getD nodeZ).data) T N w' ∧ Kp w w' T := by
  have h0 := h
  obtain ⟨bm, P, h1, h2, hgb, hg, hm, hsm, hx⟩ := h
  have hlk := nlook1 hm (s := bs a) (by rw [bs_size]; omega)
  rw [valN_enc] at hlk
  have hen : ((getG P (bs a)).getD enZ).nd = (getG S.m (bs a)).getD nodeZ := by
    rw [hsm, strip_get]
    cases getG P (bs a) <;> rfl
  have hd : RG encB 1 w ((getG P (bs a)).getD enZ).A ((getG P (bs a)).getD enZ).nd.data ∧ ∀ x, ((getG P (bs a)).getD enZ).A = some x → N x.block := by
    cases hgp : getG P (bs a) with
    | none => exact ⟨RG.nil _ _, fun a e => by cases e⟩
    | some e => exact hx _ (getG_mem hgp)
  have hp := put_any g S b ((getG P (bs a)).getD enZ) T N w h0 ok hr hl hb hc hd.1 hd.2
  rw [hen] at hp
  exact ⟨bm, _, cellOf hg (j := 0) rfl, hlk, hp⟩
/-- room for each move -/
theorem mvL_len (a b : T) : ∀ (L : List T) {m : Mp}, RiseG m → (mvL a b m L).length ≤ m.length + L.length
  | [], m, _ => by simp [mvL]
  | q :: L, m, h => by
    have h1 := putG_len (bs (tgt a b q), (getG m (bs q)).getD nodeZ) h
    have h2 := delG_len (bs q) (RiseG.put (bs (tgt a b q), (getG m (bs q)).getD nodeZ) h)
    have h3 := mvL_len a b L (m := mvStep a b m q) (RiseG.del (RiseG.put _ h) _)
    have h4 : (mvStep a b m q).length ≤ m.length + 1 := by
      unfold mvStep
      split at h1 <;> omega
    show (mvL a b (mvStep a b m q) L).length ≤ _
    rw [List.length_cons]
    omega
theorem mvL_take {a b : T} {m : Mp} {L : List T} {k : Nat} {x : T} (h : L[k]? = some x) : mvL a b m (L.take (k + 1)) = mvStep a b (mvL a b m (L.take k)) x := by
  rw [List.take_add_one, h]
  unfold mvL
  rw [List.foldl_append]
  rfl
theorem Kp.andThen {w w' w'' : World} {S : Nat → Prop} (h : Kp w w' S) (h' : Kp w' w'' S) : Kp w w'' S := h.trans (h'.mono fun k e => .inl e)
theorem SR.kp {w w' : World} {A : Option Addr} {L : List ByteArray} {T : Nat → Prop} (h : SR w A L) (hk : Kp w w' T) (hn : ∀ a, A = some a → ¬ T a.block) : SR w' A L := fun k s hs => by
  obtain ⟨g, o, e, hg, hc⟩ := h k s hs
  exact ⟨g, o, e, Nat.lt_of_lt_of_le hg hk.size, (World.cell?_of_block (a := ⟨g, o + k, none⟩) (hk.block g hg (hn _ e))).trans hc⟩
set_option maxRecDepth 100000 in
set_option maxHeartbeats 4000000 in
theorem move_any (g : Nat) (S : St) (p q : T) (T N : Nat → Prop) (w : World) (h : VS g S T N w) (ok : OkTN T N w) (hS : WfS S) (hm : MX w) (hp : p.length ≤ 50000) (hq : q.length ≤ 50000) (hck : S.clock ≤ 1000000000) :
    Calls Tryz.prog 23 #[.pointer (some ⟨g, 0, none⟩), .string (bs p), .string (bs q)] w (FsPost g (moveS S p q) T N w) := by
  have HH : Hs (VS g S) w := ⟨T, N, h, ok⟩
  have HA1 := hide (abs_any [47] p w hm (by simp) (by omega))
  have HA2 := hide (fun W (hb : Below w.heap.size w W) => abs_any [47] q W (hm.below hb) (by simp) (by omega))
  have HF := hide (fun W (hb : Below w.heap.size w W) => vfound_any g S p W (HH.below (VS.fr g S) hb) (hm.below hb) hp)
  have HB := hide (fun W (hb : Below w.heap.size w W) => vabs_any g S q W (HH.below (VS.fr g S) hb) (hm.below hb) hq)
  have hxl : (foundS S p).1.length ≤ 200 := absS_len S p
  have hyl : (absS S q).1.length ≤ 200 := absS_len S q
  have HMY := hide (fun W (hb : Below w.heap.size w W) => may_any g S hS (foundS S p).1 (absS S q).1 W (HH.below (VS.fr g S) hb) (hm.below hb) hxl hyl)
  have hR : moveS S p q = if (absF [47] p).2 ≠ 0 then (S, (absF [47] p).2) else if (absF [47] q).2 ≠ 0 then (S, (absF [47] q).2) else
    if (foundS S p).2 ≠ 0 then (S, (foundS S p).2) else if (foundS S p).1 = [47] then (S, 1) else
    if (absS S q).2 ≠ 0 then (S, (absS S q).2) else if (foundS S p).1 = (absS S q).1 then (S, 0) else
    if mayS S.m (foundS S p).1 (absS S q).1 ≠ 0 then (S, mayS S.m (foundS S p).1 (absS S q).1) else (moveQ S (foundS S p).1 (absS S q).1, 0) := rfl
  have hdl0 := dataM_len hS (absS S q).1
  have hus := hS.bytes
  have hb20 := hS.b20
  obtain ⟨R, hRe⟩ : ∃ R, moveS S p q = R := ⟨_, rfl⟩
  rw [hRe] at hR ⊢
  unfold AbsPost at HA1 HA2 HF HB
  obtain ⟨r1, hr1⟩ : ∃ r, absF [47] p = r := ⟨_, rfl⟩
  obtain ⟨x1, e1⟩ := r1
  rw [hr1] at HA1 hR
  obtain ⟨r2, hr2⟩ : ∃ r, absF [47] q = r := ⟨_, rfl⟩
  obtain ⟨y1, e2⟩ := r2
  rw [hr2] at HA2 hR
  obtain ⟨r3, hr3⟩ : ∃ r, foundS S p = r := ⟨_, rfl⟩
  obtain ⟨x, e3⟩ := r3
  rw [hr3] at HF HMY hR hxl
  obtain ⟨r4, hr4⟩ : ∃ r, absS S q = r := ⟨_, rfl⟩
  obtain ⟨y, e4⟩ := r4
  rw [hr4] at HB HMY hR hyl hdl0
  dsimp only at HA1 HA2 HF HB HMY hR hxl hyl hdl0
  rw [show bs [47] = (⟨#[47]⟩ : ByteArray) from rfl] at HA1 HA2
  obtain ⟨my, hmy⟩ : ∃ r, mayS S.m x y = r := ⟨_, rfl⟩
  rw [hmy] at HMY hR
  have HR := hide hR
  have H := hide h
  have OK := hide ok
  have HWF := hide hS
  clear hRe hr1 hr2 hr3 hr4 hmy hR h ok hS HH hm hp hq
  go_enter Tryz.func23, Tryz.ntmps23
  go_wp2_with fail
  refine HA1.out.mono ?_
  rintro e w1 ⟨rfl, hb1⟩
  have HB1 := hide hb1
  clear hb1 HA1
  by_cases c1 : e1 = 0
  case neg =>
    obtain ⟨t1, t2⟩ := ne0 c1
    have HE := hide (HR.out.trans (if_pos c1))
    clear c1
    go_wp2
    go_ret
    rw [HE.out]
    exact FsPost.stay H.out OK.out HB1.out
  subst c1
  have HR1 := hide (HR.out.trans (if_neg (by simp)))
  clear HR
  go_wp2_with fail
  refine (HA2.out w1 HB1.out).mono ?_
  rintro e w2 ⟨rfl, hb2⟩
  have HB2 := hide (below_up HB1.out hb2 HB1.out.size)
  clear hb2 HA2
  by_cases c2 : e2 = 0
  case neg =>
    obtain ⟨t1, t2⟩ := ne0 c2
    have HE := hide (HR1.out.trans (if_pos c2))
    clear c2
    go_wp2
    go_ret
    rw [HE.out]
    exact FsPost.stay H.out OK.out HB2.out
  subst c2
  have HR2 := hide (HR1.out.trans (if_neg (by simp)))
  clear HR1 HB1
  go_wp2_with fail
  refine (HF.out w2 HB2.out).mono ?_
  rintro e w3 ⟨rfl, hb3⟩
  have HB3 := hide (below_up HB2.out hb3 HB2.out.size)
  clear hb3 HF HB2
  by_cases c3 : e3 = 0
  case neg =>
    obtain ⟨t1, t2⟩ := ne0 c3
    have HE := hide (HR2.out.trans (if_pos c3))
    clear c3
    go_wp2
    go_ret
    rw [HE.out]
    exact FsPost.stay H.out OK.out HB3.out
  subst c3
  have HR3 := hide (HR2.out.trans (if_neg (by simp)))
  clear HR2
  by_cases c4 : x = [47]
  · have ht : ((bs x).toList == [47]) = true := by rw [bs_toList, c4]; rfl
    have HE := hide (HR3.out.trans (if_pos c4))
    clear c4
    go_wp2
    go_ret
    rw [HE.out]
    exact FsPost.stay H.out OK.out HB3.out
  have ht : ((bs x).toList == [47]) = false := by rw [bs_toList]; simpa using c4
  have HR4 := hide (HR3.out.trans (if_neg c4))
  clear HR3 c4
  go_wp2_with fail
  refine (HB.out w3 HB3.out).mono ?_
  rintro e w4 ⟨rfl, hb4⟩
  have HB4 := hide (below_up HB3.out hb4 HB3.out.size)
  clear hb4 HB HB3
  by_cases c5 : e4 = 0
  case neg =>
    obtain ⟨t1, t2⟩ := ne0 c5
    have HE := hide (HR4.out.trans (if_pos c5))
    clear c5
    go_wp2
    go_ret
    rw [HE.out]
    exact FsPost.stay H.out OK.out HB4.out
  subst c5
  have HR5 := hide (HR4.out.trans (if_neg (by simp)))
  clear HR4
  by_cases c6 : x = y
  · have ht2 : ((bs x).toList == (bs y).toList) = true := by rw [c6]; simp
    have HE := hide (HR5.out.trans (if_pos c6))
    clear c6
    go_wp2
    go_ret
    rw [HE.out]
    exact FsPost.stay H.out OK.out HB4.out
  have ht2 : ((bs x).toList == (bs y).toList) = false := by rw [bs_toList, bs_toList]; simpa using c6
  have HR6 := hide (HR5.out.trans (if_neg c6))
  clear HR5 c6
  go_wp2_with fail
  refine (HMY.out w4 HB4.out).mono ?_
  rintro e w5 ⟨rfl, hb5⟩
  have HB5 := hide (below_up HB4.out hb5 HB4.out.size)
  clear hb5 HMY HB4
  by_cases c7 : my = 0
  case neg =>
    obtain ⟨t1, t2⟩ := ne0 c7
    have HE := hide (HR6.out.trans (if_pos c7))
    clear c7
    go_wp2
    go_ret
    rw [HE.out]
    exact FsPost.stay H.out OK.out HB5.out
  subst c7
  have HE := hide (HR6.out.trans (if_neg (by simp)))
  clear HR6
  have HBD := hide HB5.out.drew
  obtain ⟨hv5, ok5⟩ := H.out.stay OK.out HBD.out
  obtain ⟨b, db, A0, c0, tm, hc0', hlk, _, _, _⟩ := node_at ⟨T, N, hv5, ok5⟩ y (by omega)
  have hg5 : ∃ b : Nat, w5.heap[g]? = some (.cells #[.map (some b), .int .i64 S.nodes, .int .i64 S.bytes, .int .i64 S.used, .int .i64 S.clock] 86) ∧ T g := by
    obtain ⟨b, P, h1, h2, hgb, hg, hmp, hsm, hx⟩ := hv5
    exact ⟨b, hg, h1⟩
  obtain ⟨b', hg5, hTg⟩ := hg5
  have hq0 := cellOf hg5 (j := 0) (v := .map (some b')) rfl
  have hq3 := cellOf hg5 (j := 3) (v := .int .i64 S.used) rfl
  have hf3 := freeOf hg5 3
  have eb := hq0.symm.trans hc0'
  injection eb with eb
  injection eb with eb
  injection eb with eb
  subst eb
  clear hc0'
  obtain ⟨m, hmm⟩ : ∃ n, (dataM S.m y).length = n := ⟨_, rfl⟩
  rw [hmm] at hdl0 hlk
  have e1 : ((S.used - m : Nat) : Int) = (S.used : Int) - (m : Int) := by omega
  have wr1 : IntKind.i64.wrap ((S.used : Int) - (m : Int)) = (S.used : Int) - (m : Int) := IntWalk.i64_in _ (by omega)
  have hkS := kpSet w5.drew g 3 (.int .i64 (S.used - m : Nat))
  obtain ⟨hv6, ok6⟩ := hv5.used ok5 (S.used - m) hkS
  rw [e1] at hv6 ok6 hkS
  have hk6 : Kp w (w5.drew.setCell ⟨g, 3, none⟩ (.int .i64 ((S.used : Int) - (m : Int)))) T := (Kp.of_below HBD.out T).trans (hkS.mono (fun k e => .inl (e ▸ hTg)))
  obtain ⟨W6, hW6⟩ : ∃ W, (w5.setCell ⟨g, 3, none⟩ (.int .i64 ((S.used : Int) - (m : Int)))).drew = W := ⟨_, rfl⟩
  have hW6' : w5.drew.setCell ⟨g, 3, none⟩ (.int .i64 ((S.used : Int) - (m : Int))) = W6 := hW6
  rw [hW6'] at hv6 ok6 hk6
  have HV6 := hide hv6
  have OK6 := hide ok6
  have HK6 := hide hk6
  have hri := HWF.out.rise
  have hcnt := below_count HWF.out x
  have hln : S.m.length ≤ 10000 := by have := HWF.out.nodes; have := HWF.out.n10; omega
  have HBA := hide (below_anyR g { S with used := S.used - m } hri hln x W6 ⟨T, N, hv6, ok6⟩ (by omega))
  have HMEM := hide (fun z hz => below_mem HWF.out (a := x) (x := z) hz)
  have HLR := hide (And.intro hri hln)
  have HQ : moveQ S x y = { S with m := delG (bs x) (putG (bs y, (⟨((getG (mvL x y S.m (belowM S.m x)) (bs x)).getD nodeZ).dir, ((getG (mvL x y S.m (belowM S.m x)) (bs x)).getD nodeZ).data, S.clock + 1⟩ : Nd)) (mvL x y S.m (belowM S.m x))), used := S.used - (dataM S.m y).length, clock := S.clock + 1 } := rfl
  rw [hmm] at HQ
  dsimp only at HBA
  obtain ⟨LA, hLA⟩ : ∃ L, belowM S.m x = L := ⟨_, rfl⟩
  rw [hLA] at HBA HMEM HQ hcnt
  have HQH := hide HQ
  clear hv5 ok5 hkS hv6 ok6 hk6 hW6' hri hln HQ hLA hmm hg5
  go_wp2_with fail
  go_region
  go_wp2_with fail
  refine HBA.out.mono ?_
  rintro e w7 ⟨⟨v, rfl, ho⟩, hb7⟩
  have hA7 := ho.lt
  obtain ⟨A, c, rfl, hc, hsr, _⟩ := ho.slice
  rw [List.length_map] at hc ⊢
  have HSR := hide hsr
  have hv7 := HV6.out.stay OK6.out hb7
  have HV7 := hide hv7.1
  have OK7 := hide hv7.2
  have HK7 := hide (show Kp w w7 T from HK6.out.trans (Kp.of_below hb7 _))
  have HNT := hide (show ∀ a, A = some a → ¬ T a.block from fun a e hT => by
    have h1 := (hA7 a.block (by rw [e]; rfl)).1
    have h2 := (OK6.out.1 _ hT).1
    omega)
  clear ho hb7 hsr hv7 hA7 HBA
  obtain ⟨n, hn⟩ : ∃ n, LA.length = n := ⟨_, rfl⟩
  have HN := hide hn
  rw [hn] at hc hcnt ⊢
  clear hn
  have hn1 : (n : Int) ≤ 10000 := by omega
  go_wp2
  go_loopw [14, 82] (fun _ v82 wr => ∃ k : Nat, v82 = .int .i64 k ∧ k ≤ n ∧ Hid (VS g { S with used := S.used - m, m := mvL x y S.m (LA.take k) } T N wr) ∧ Hid (OkTN T N wr) ∧ Hid (Kp w7 wr T)) (fun _ v82 _ => n - (intOf v82).toNat)
  case atStart => exact ⟨0, rfl, by omega, HV7.out, OK7.out, Kp.refl _ _⟩
  case round =>
    obtain ⟨k, rfl, hk, HVK, HOK, HKK⟩ := hrel
    have hLr : RiseG (mvL x y S.m (LA.take k)) := mvL_rise x y _ HLR.out.1
    have hLl : (mvL x y S.m (LA.take k)).length ≤ 20000 := by
      have h1 := mvL_len x y (LA.take k) HLR.out.1
      have h2 := HLR.out.2
      rw [List.length_take] at h1
      omega
    by_cases hlt : k < n
    · obtain ⟨z, hz⟩ : ∃ z, LA[k]? = some z := ⟨LA[k]'(by have := HN.out; omega), List.getElem?_eq_getElem _⟩
      obtain ⟨gs, o, rfl, hg, hcx⟩ := (HSR.out.kp HKK.out HNT.out) k (bs z) (by rw [List.getElem?_map, hz]; rfl)
      obtain ⟨hx1, hx2⟩ := HMEM.out z (List.mem_of_getElem? hz)
      have zx : (bs z).size = z.length := bs_size z
      have za : (bs x).size = x.length := bs_size x
      have HEX := hide (show (bs z).extract x.length (bs z).size = bs (z.drop x.length) by rw [ext_bs, bs_size, List.take_of_length_le (by rw [List.length_drop]; omega)])
      have HAP := hide (bs_app y (z.drop x.length))
      have htl : (tgt x y z).length ≤ 400 := by unfold tgt; rw [List.length_append, List.length_drop]; omega
      have zd : (bs (z.drop x.length)).size = z.length - x.length := by rw [bs_size, List.length_drop]
      have zb : (bs y).size = y.length := bs_size y
      have hst := mv_step g _ x y z T N wr HVK.out HOK.out hLr (by dsimp only; omega) (by omega) (by omega)
      have htk := mvL_take (a := x) (b := y) (m := S.m) hz
      dsimp only at hst
      rw [← htk] at hst
      obtain ⟨bm, v, w8, w9, hc0, hlk2, hst2, hc2, hdl2, hv9, hk9⟩ := hst
      rw [show bs (tgt x y z) = bs y ++ bs (z.drop x.length) from HAP.out.symm] at hst2
      have HV9 := hide hv9
      have HK9 := hide hk9
      have HOK9 := hide ((GrowN.refl HOK.out hk9.size).2.2.2)
      have b1 : (k : Int) < (n : Int) := by omega
      obtain ⟨xl, hxl'⟩ : ∃ n, x.length = n := ⟨_, rfl⟩
      obtain ⟨zl, hzl'⟩ : ∃ n, z.length = n := ⟨_, rfl⟩
      obtain ⟨yl, hyl'⟩ : ∃ n, y.length = n := ⟨_, rfl⟩
      rw [hxl'] at zd hx1 za HEX hst2 hxl
      rw [hzl'] at zd hx1 hx2 zx
      rw [hyl'] at zb hyl
      rw [zx] at HEX
      rw [← HEX.out] at zd hst2
      clear hz hLr hLl htl htk hv9 hk9 hxl' hzl' hyl'
      go_wp2_with fail
      go_region
      go_wp2
      go_roundw
      case rel => exact ⟨k + 1, by go_num, by omega, HV9.out, HOK9.out, HKK.out.andThen HK9.out⟩
      case measure => simp [intOf]; omega
    · obtain rfl : k = n := by omega
      have htk : LA.take k = LA := List.take_of_length_le (by have := HN.out; omega)
      rw [htk] at HVK hLr hLl
      obtain ⟨bm, v, hc0, hlk2, hput⟩ := mv_put g _ x y T N wr HVK.out HOK.out hLr (by dsimp only; omega) (by omega) (by omega) hck
      have HPUT := hide hput
      clear hLr hLl htk hput
      go_wp2_with fail
      refine HPUT.out.mono ?_
      rintro e w8 ⟨rfl, hv8, hk8⟩
      have ok8 := (GrowN.refl HOK.out hk8.size).2.2.2
      obtain ⟨b9, w9, hc9, hdl9, hv9, hk9⟩ := mv_del g _ x T N w8 hv8 ok8 (by omega)
      have HV9 := hide hv9
      have HK9 := hide (HK7.out.trans ((HKK.out.andThen (hk8.andThen hk9)).mono (fun k h => .inl h)))
      clear hv8 hk8 ok8 hv9 hk9
      go_wp2
      go_ret
      rw [HE.out]
      refine ⟨rfl, N, ?_, GrowN.refl OK.out HK9.out.size, HK9.out⟩
      have := HV9.out
      dsimp only at this ⊢
      rw [HQH.out]
      exact this
end Go.Proofs.YtkajhdbcnmafcaaGreatDoor
