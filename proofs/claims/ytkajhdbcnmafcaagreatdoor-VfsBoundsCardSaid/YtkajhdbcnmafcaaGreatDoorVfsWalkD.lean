/- Walk of the file system's Write. Walks of the file system's Mkdir and Touch. -/
import Derived.Test.YtkajhdbcnmafcaaGreatDoorVfsWalkA
import Derived.Test.YtkajhdbcnmafcaaGreatDoorConcat
namespace Go.Proofs.YtkajhdbcnmafcaaGreatDoor
open Go.RowKit Go.Deep Go.Maps Ln Pth Vf
attribute [local go_sem] bt_eq fld0 fld1 fld2 mkMap

/-- what a call leaves that may change a file system -/
def FsPost (g : Nat) (r : St × Nat) (T N : Nat → Prop) (w : World) (e : Ending) (w' : World) : Prop := e = .returned (.int .i64 r.2) ∧ ∃ N', VS g r.1 T N' w' ∧ GrowN w w' T N T N' ∧ Kp w w' T
theorem VS.stay {g : Nat} {S : St} {T N : Nat → Prop} {w w' : World} (h : VS g S T N w) (ok : OkTN T N w) (hb : Below w.heap.size w w') : VS g S T N w' ∧ OkTN T N w' :=
  ⟨VS.fr g S T N N w w' h (fun k hk => hb.block k (hk.elim (fun h => (ok.1 k h).1) (ok.2 k))) (fun _ h => h) hb.size, (GrowN.refl ok hb.size).2.2.2⟩
theorem FsPost.stay {g : Nat} {S : St} {n : Nat} {T N : Nat → Prop} {w w' : World} (h : VS g S T N w) (ok : OkTN T N w) (hb : Below w.heap.size w w') : FsPost g (S, n) T N w (.returned (.int .i64 n)) w' :=
  ⟨rfl, N, (h.stay ok hb).1, GrowN.refl ok hb.size, Kp.of_below hb T⟩
theorem VS.used {g : Nat} {S : St} {T N : Nat → Prop} {w : World} (h : VS g S T N w) (ok : OkTN T N w) (u : Nat) (hk : Kp w (w.setCell ⟨g, 3, none⟩ (.int .i64 u)) (fun k => k = g)) : VS g { S with used := u } T N (w.setCell ⟨g, 3, none⟩ (.int .i64 u)) ∧ OkTN T N (w.setCell ⟨g, 3, none⟩ (.int .i64 u)) := by
  obtain ⟨b, P, h1, h2, hgb, hg, hm, hsm, hx⟩ := h
  refine ⟨⟨b, P, h1, h2, hgb, heapSet hg _, hm.of (hk.block b (ok.1 b h2).1 (fun e => hgb e.symm)), hsm, fun x hx' => ⟨(hx x hx').1.of hk.size (fun a ea hlt => hk.block a.block hlt (fun e => (ok.1 g h1).2 (by rw [← e]; exact (hx x hx').2 a ea))), (hx x hx').2⟩⟩, (GrowN.refl ok hk.size).2.2.2⟩
theorem kpSet (w : World) (g j : Nat) (v : Value) : Kp w (w.setCell ⟨g, j, none⟩ v) (fun k => k = g) :=
  ⟨rfl, rfl, rfl, by simp, fun k _ hne => Below.heap_setCell _ _ _ _ (by simpa using hne)⟩
set_option maxRecDepth 100000 in
/-- the node at a path, as it is read -/
theorem node_at {g : Nat} {S : St} {w : World} (h : Hs (VS g S) w) (q : T) (hq : q.length ≤ 100000) : ∃ (b : Nat) (db : Bool) (A : Option Addr) (c tm : Nat), w.cell? ⟨g, 0, none⟩ = some (.map (some b)) ∧
    (Instr.lookup 84 (.map (some b)) (.string (bs q)) false).run Tryz.prog w = .ok (.agg #[.bool db, .slice A (dataM S.m q).length c, .int .i64 tm]) w ∧ RG encB 1 w A (dataM S.m q) ∧ tm = timeM S.m q ∧ (∀ n, getG S.m (bs q) = some n → db = n.dir) := by
  obtain ⟨b, P, hgb, hg, hm, hS, hx⟩ := VS.opn h
  have hlk := nlook1 hm (s := bs q) (by rw [bs_size]; omega)
  unfold dataM timeM
  rw [hS, strip_get]
  cases hgp : getG P (bs q) with
  | none =>
    rw [hgp] at hlk
    exact ⟨b, false, none, 0, 0, cellOf hg (j := 0) rfl, hlk, RG.nil _ _, rfl, fun n hn => by cases hn⟩
  | some e =>
    rw [hgp] at hlk
    exact ⟨b, e.nd.dir, e.A, e.c, e.nd.time, cellOf hg (j := 0) rfl, hlk, hx _ (getG_mem hgp), rfl, fun n hn => by injection hn with hn; rw [← hn]⟩
theorem rg_set {w : World} {g : Nat} {mb : Option Nat} {a b c d : Int} {t : TypeId} (hg : w.heap[g]? = some (.cells #[.map mb, .int .i64 a, .int .i64 b, .int .i64 c, .int .i64 d] t)) {A : Option Addr} {D : List UInt8} (h : RG encB 1 w A D) (j : Nat) (v : Value) : RG encB 1 (w.setCell ⟨g, j, none⟩ v) A D := by
  intro k x hk
  obtain ⟨g', o, e, hlt, hc⟩ := h k x hk
  refine ⟨g', o, e, by simpa using hlt, fun i u hu => ?_⟩
  have h1 := hc i u hu
  by_cases e2 : g' = g
  · subst e2
    exfalso
    cases i with
    | succ i => simp [encB] at hu
    | zero =>
      have hu2 : u = .int .u8 x.toNat := by simpa [encB] using hu.symm
      subst hu2
      unfold World.cell? at h1
      simp only [hg] at h1
      generalize o + k * 1 + 0 = z at h1
      match z, h1 with
      | 0, h1 => simp at h1
      | 1, h1 => simp at h1
      | 2, h1 => simp at h1
      | 3, h1 => simp at h1
      | 4, h1 => simp at h1
      | z + 5, h1 => simp at h1
  · exact (World.cell?_of_block (a := ⟨g', o + k * 1 + i, none⟩) (Below.heap_setCell _ _ _ _ (by simpa using e2))).trans h1
theorem slb_two (w : World) {A1 A2 : Option Addr} {c1 c2 : Nat} {D1 D2 : List UInt8} (h1 : RG encB 1 w A1 D1) (h2 : RG encB 1 w A2 D2) (t : TypeId) :
    SLB (w.alloc (.cells #[.slice A1 D1.length c1, .slice A2 D2.length c2] t)) (some ⟨w.heap.size, 0, none⟩) [(A1, c1, D1), (A2, c2, D2)] := by
  have hb : Below w.heap.size w (w.alloc (.cells #[.slice A1 D1.length c1, .slice A2 D2.length c2] t)) := (Below.refl _ _).alloc (Nat.le_refl _) _
  have hn := heapNew w (.cells #[.slice A1 D1.length c1, .slice A2 D2.length c2] t)
  intro k x hk
  match k, hk with
  | 0, hk =>
    simp at hk
    subst hk
    exact ⟨_, _, rfl, by simp, cellOf hn rfl, h1.below hb⟩
  | 1, hk =>
    simp at hk
    subst hk
    exact ⟨_, _, rfl, by simp, cellOf hn rfl, h2.below hb⟩
  | k + 2, hk => simp at hk
theorem room_int (g : Nat) (S : St) (hS : WfS S) (nodes grows : Int) (w : World) (h : Hs (VS g S) w) (h0 : 0 ≤ nodes) (hn : nodes ≤ 10) (h1 : -4000000 ≤ grows) (h2 : grows ≤ 4000000) :
    Calls Tryz.prog 61 #[.pointer (some ⟨g, 0, none⟩), .int .i64 nodes, .int .i64 grows] w fun e w' => e = .returned (.bool (decide ((S.m.length : Int) + nodes ≤ S.nodes ∧ (S.used : Int) + grows ≤ (S.bytes : Int)))) ∧ Drew w w' := by
  obtain ⟨k, rfl⟩ := Int.eq_ofNat_of_zero_le h0
  have := room_any g S hS k grows w h (by omega) h1 h2
  rwa [show decide ((S.m.length + k : Nat) ≤ S.nodes ∧ (S.used : Int) + grows ≤ (S.bytes : Int)) = decide ((S.m.length : Int) + (k : Int) ≤ S.nodes ∧ (S.used : Int) + grows ≤ (S.bytes : Int)) from decide_eq_decide.2 (by omega)] at this
/-- the blocks that never change, and a new one -/
def moreN (N : Nat → Prop) (A : Option Addr) (k : Nat) : Prop := N k ∨ ∃ a, A = some a ∧ k = a.block
theorem VS.more {g : Nat} {S : St} {T N : Nat → Prop} {w w' : World} (h : VS g S T N w) (ok : OkTN T N w) (hb : Below w.heap.size w w') {A : Option Addr} (hn : ∀ a, A = some a → w.heap.size ≤ a.block ∧ a.block < w'.heap.size) :
    VS g S T (moreN N A) w' ∧ GrowN w w' T N T (moreN N A) := by
  have hs := hb.size
  refine ⟨VS.fr g S T N _ w w' h (fun k hk => hb.block k (hk.elim (fun h => (ok.1 k h).1) (ok.2 k))) (fun k h => .inl h) hs, fun k h => .inl h, fun k h => .inl h, ?_, ?_, ?_⟩
  · rintro k (h | ⟨a, e, rfl⟩)
    · exact .inl h
    · exact .inr (hn a e).1
  · intro k hk
    refine ⟨Nat.lt_of_lt_of_le (ok.1 k hk).1 hs, ?_⟩
    rintro (h | ⟨a, e, rfl⟩)
    · exact (ok.1 k hk).2 h
    · have := (hn a e).1; have := (ok.1 _ hk).1; omega
  · rintro k (h | ⟨a, e, rfl⟩)
    · exact Nat.lt_of_lt_of_le (ok.2 k h) hs
    · exact (hn a e).2
/-- two rows, one behind the other -/
theorem concat_two (g : Nat) (A1 A2 : Option Addr) (c1 c2 : Nat) (D1 D2 : List UInt8) (w : World) (h : SLB w (some ⟨g, 0, none⟩) [(A1, c1, D1), (A2, c2, D2)]) (h1 : D1.length ≤ 400000) (h2 : D2.length ≤ 400000) :
    Calls Tryz.prog 63 #[.slice (some ⟨g, 0, none⟩) 2 2] w fun e w' => (∃ A c, e = .returned (.slice A (D1 ++ D2).length c) ∧ RG encB 1 w' A (D1 ++ D2) ∧ ∀ a, A = some a → w.heap.size ≤ a.block ∧ a.block < w'.heap.size) ∧ Below w.heap.size w w' := by
  have hc : catB [(A1, c1, D1), (A2, c2, D2)] = D1 ++ D2 := by simp [catB]
  have := concat_any (some ⟨g, 0, none⟩) 2 [(A1, c1, D1), (A2, c2, D2)] w h (by simp) (by simp [sumB]; omega)
  rw [hc] at this
  refine this.mono ?_
  rintro e w' ⟨⟨v, rfl, ho⟩, hb⟩
  obtain ⟨A, c, rfl, _, hr, ha, _⟩ := ho.slice encB_len
  exact ⟨⟨A, c, rfl, hr, fun a e => ho.lt _ (ha a e)⟩, hb⟩
set_option maxRecDepth 100000 in
set_option maxHeartbeats 4000000 in
theorem write_any (g : Nat) (S : St) (p b : T) (more : Bool) (A : Option Addr) (c : Nat) (T N : Nat → Prop) (w : World) (h : VS g S T N w) (ok : OkTN T N w) (hS : WfS S) (hm : MX w) (hp : p.length ≤ 50000) (hby : S.bytes ≤ 400000) (hbl : b.length ≤ 400000) (hck : S.clock ≤ 1000000000) (hr : RG encB 1 w A b) :
    Calls Tryz.prog 19 #[.pointer (some ⟨g, 0, none⟩), .string (bs p), .slice A b.length c, .bool more] w (FsPost g (writeS S p b more) T N w) := by
  have HH : Hs (VS g S) w := ⟨T, N, h, ok⟩
  have HA := hide (vabs_any g S p w HH hm hp)
  have hl := absS_len S p
  have hR : writeS S p b more = if (absS S p).2 ≠ 0 then (S, (absS S p).2) else writeQ S (absS S p).1 b more := rfl
  unfold AbsPost at HA
  obtain ⟨q, hq⟩ : ∃ q, (absS S p).1 = q := ⟨_, rfl⟩
  obtain ⟨e, he⟩ : ∃ q, (absS S p).2 = q := ⟨_, rfl⟩
  rw [hq] at HA hR hl
  rw [he] at HA hR
  have HR := hide hR
  have H := hide h
  have OK := hide ok
  have HRG := hide hr
  have HWF := hide hS
  have HHS := hide HH
  have d2 := dataM_len hS q
  have u1 := hS.bytes
  obtain ⟨n, hn⟩ : ∃ n, b.length = n := ⟨_, rfl⟩
  have HN := hide hn
  rw [hn] at hbl ⊢
  clear hR he h ok hr hS HH hn hq hm
  by_cases c1 : e = 0
  case neg =>
    obtain ⟨t1, t2⟩ := ne0 c1
    have HE := hide (show writeS S p b more = (S, e) by rw [HR.out, if_pos c1])
    clear c1
    go_enter Tryz.func19, Tryz.ntmps19
    go_wp2_with fail
    refine HA.out.mono ?_
    rintro e w1 ⟨rfl, hb⟩
    have HB := hide hb
    clear hb
    go_wp2
    go_ret
    rw [HE.out]
    exact FsPost.stay H.out OK.out HB.out
  subst c1
  have hRQ := HR.out
  rw [if_neg (by simp)] at hRQ
  unfold writeQ at hRQ
  have HK := hide (fun W (hb : Below w.heap.size w W) => kind_any g S q W (HHS.out.below (VS.fr g S) hb) (by omega))
  obtain ⟨kk, hkk⟩ : ∃ y, kindM S.m q = y := ⟨_, rfl⟩
  rw [hkk] at HK hRQ
  by_cases k2 : kk = 2
  · subst k2
    have HE := hide (show writeS S p b more = (S, 10) by rw [hRQ]; rfl)
    clear hRQ hkk
    go_enter Tryz.func19, Tryz.ntmps19
    go_wp2_with fail
    refine HA.out.mono ?_
    rintro e w1 ⟨rfl, hb⟩
    have HB := hide hb
    clear hb
    go_wp2_with fail
    refine (HK.out w1 HB.out).mono ?_
    rintro e w2 ⟨rfl, hb⟩
    have HB2 := hide (below_up HB.out hb HB.out.size)
    clear hb
    go_wp2
    go_ret
    rw [HE.out]
    exact FsPost.stay H.out OK.out HB2.out
  have k2' : ((kk : Int) == 2) = false := by simp; omega
  rw [if_neg k2] at hRQ
  simp only at hRQ
  obtain ⟨m, hmm⟩ : ∃ n, (dataM S.m q).length = n := ⟨_, rfl⟩
  rw [hmm] at hRQ d2
  obtain ⟨nd, hnd⟩ : ∃ nd : Nat, (if kk = 0 then 1 else 0) = nd := ⟨_, rfl⟩
  obtain ⟨was, hwas⟩ : ∃ x, (if more = true then dataM S.m q else []) = x := ⟨_, rfl⟩
  rw [hnd, hwas] at hRQ
  have HRQ := hide hRQ
  have HMM := hide hmm
  clear hRQ hkk k2 hmm
  have hbl1 : (n : Int) ≤ 400000 := by omega
  have hm1 : (m : Int) ≤ 400000 := by omega
  go_enter Tryz.func19, Tryz.ntmps19
  go_wp2_with fail
  refine HA.out.mono ?_
  rintro e w1 ⟨rfl, hb⟩
  have HB := hide hb
  clear hb
  go_wp2_with fail
  refine (HK.out w1 HB.out).mono ?_
  rintro e w2 ⟨rfl, hb⟩
  have HB2 := hide (below_up HB.out hb HB.out.size)
  clear hb
  obtain ⟨bm, db, A0, c0, tm, hc0, hlk, hr0, _, _⟩ := node_at (HHS.out.below (VS.fr g S) HB2.out) q (by omega)
  rw [HMM.out] at hlk
  have HR0 := hide hr0
  clear hr0
  have HWAS := hide hwas
  have HND := hide hnd
  clear hnd hwas
  by_cases k0 : kk = 0
  all_goals
    first
      | (subst k0
         have hnd : nd = 1 := by rw [← HND.out]; rfl)
      | (have k0' : ((kk : Int) == 0) = false := by simp; omega
         have hnd : nd = 0 := by rw [← HND.out, if_neg k0])
    cases more
  all_goals
    have hwl := congrArg List.length HWAS.out
    first
      | rw [if_pos rfl, HMM.out] at hwl
      | (rw [if_neg (by simp)] at hwl
         simp only [List.length_nil] at hwl)
    have HROOM := hide (show ∀ (W : World) (hb : Below w.heap.size w W) (nodes grows : Int) (h1 : nodes = nd) (h2 : grows = (was.length : Int) + n - m), Calls Tryz.prog 61 #[.pointer (some ⟨g, 0, none⟩), .int .i64 nodes, .int .i64 grows] W fun e w' => ∃ rb, e = .returned (.bool rb) ∧ (rb = true ↔ (S.m.length + nd ≤ S.nodes ∧ S.used + (was.length + b.length) ≤ S.bytes + m)) ∧ Drew W w' from by
      intro W hb nodes grows h1 h2
      refine (room_int g S HWF.out nodes grows W (HHS.out.below (VS.fr g S) hb) (by omega) (by omega) (by omega) (by omega)).mono ?_
      rintro e w' ⟨rfl, h⟩
      refine ⟨_, rfl, ?_, h⟩
      rw [decide_eq_true_iff]
      have := HN.out
      omega)
    have HND2 := hide hnd
    have HWL := hide hwl
    clear hnd hwl
    go_wp2_with fail
    refine Calls.mono (HROOM.out _ HB2.out _ _ ?h1 ?h2) ?_
    case h1 => have := HND2.out; omega
    case h2 => have := HWL.out; omega
    rintro e w3 ⟨rb, rfl, hrb, hd3⟩
    have HB3 := hide (below_up HB2.out hd3.below HB2.out.size)
    have HRB := hide hrb
    have HD3 := hide hd3
    clear hd3 hrb
    cases rb with
    | false =>
      have HE := hide (HRQ.out.trans (if_neg (fun h => by have := HRB.out.2 h; cases this)))
      go_wp2
      go_ret
      rw [HE.out]
      exact FsPost.stay H.out OK.out HB3.out
    | true =>
      obtain ⟨hv3, ok3⟩ := H.out.stay OK.out HB3.out
      have HV3 := hide hv3
      have OK3 := hide ok3
      obtain ⟨b3, P3, _, _, _, hg3, _⟩ := hv3
      have hc3 := cellOf hg3 (j := 3) rfl
      have hf3 := freeOf hg3 3
      have hgl := World.block_lt_of_cell? _ _ hc3
      clear ok3
      have hg3' := hg3
      have HG3 := hide hg3
      clear hg3
      have hbb := HN.out
      obtain ⟨u, hu⟩ : ∃ u, S.used + (was.length + b.length) - m = u := ⟨_, rfl⟩
      have HU := hide hu
      have HRA := hide (rg_set hg3' (HRG.out.below HB3.out) 3 (.int .i64 (u : Int)))
      have hr03 := HR0.out.drew HD3.out
      have HRO := hide (rg_set hg3' hr03 3 (.int .i64 (u : Int)))
      have hcond := HRB.out.1 rfl
      have huz : u ≤ 400000 := by omega
      have HE := hide (HRQ.out.trans (if_pos hcond))
      rw [hu] at HE
      have humi : (u : Int) = (S.used : Int) + (was.length + n) - m := by omega
      have HUM := hide humi
      clear hg3' hr03 hbb hcond hu humi
      go_wp2_with fail
      first
        | (have hw : was = [] := by have h := HWAS.out; simp at h; first | exact h | exact h.symm
           subst hw
           have HSL := hide (slb_two (w3.setCell ⟨g, 3, none⟩ (.int .i64 (u : Int))) (A1 := none) (c1 := 0) (D1 := []) (c2 := c) (RG.nil _ _) HRA.out 23)
           rw [show (S.used : Int) + ((n : Int) - (m : Int)) = (u : Int) by have := HUM.out; simp only [List.length_nil] at this; omega])
        | (have hw : was = dataM S.m q := by have h := HWAS.out; simp at h; exact h.symm
           have HSL := hide (slb_two (w3.setCell ⟨g, 3, none⟩ (.int .i64 (u : Int))) (c1 := c0) (c2 := c) HRO.out HRA.out 23)
           rw [← hw, ← HWL.out] at HSL
           clear hw
           rw [show (S.used : Int) + (n : Int) = (u : Int) by have := HUM.out; have := HWL.out; omega])
      all_goals
        rw [HN.out] at HSL
        have hsz4 : (w3.setCell ⟨g, 3, none⟩ (.int .i64 (u : Int))).heap.size = w3.heap.size := by simp
        rw [hsz4] at HSL
        obtain ⟨hv4, ok4⟩ := VS.used HV3.out OK3.out u (kpSet w3 g 3 (.int .i64 (u : Int)))
        have hk4 : Kp w (w3.setCell ⟨g, 3, none⟩ (.int .i64 (u : Int))) T := (Kp.of_below HB3.out T).trans ((kpSet w3 g 3 (.int .i64 (u : Int))).mono (fun k e => by subst e; exact .inl (by obtain ⟨_, _, h1, _⟩ := H.out; exact h1)))
        have HV4 := hide hv4
        have OK4 := hide ok4
        have HK4 := hide hk4
        clear hv4 ok4 hk4
        generalize hW4 : (World.setCell w3 ⟨g, 3, none⟩ (.int .i64 (u : Int))).alloc _ = W4 at HSL ⊢
        have hb4 : Below (World.setCell w3 ⟨g, 3, none⟩ (.int .i64 (u : Int))).heap.size (World.setCell w3 ⟨g, 3, none⟩ (.int .i64 (u : Int))) W4 := by rw [← hW4]; exact (Below.refl _ _).alloc (Nat.le_refl _) _
        have HB4 := hide hb4
        clear hb4 hW4
        have HCC := hide (concat_two w3.heap.size _ _ _ _ _ _ W4 HSL.out (by first | (simp; done) | (have := HWL.out; omega)) (by have := HN.out; omega))
        generalize hD5 : _ ++ b = D5 at HCC
        have HD5 := hide hD5
        obtain ⟨n5, hn5'⟩ : ∃ n, D5.length = n := ⟨_, rfl⟩
        rw [hn5'] at HCC
        have HN5' := hide hn5'
        clear hD5 hn5'
        go_wp2_with fail
        refine HCC.out.mono ?_
        rintro e w5 ⟨⟨A5, c5, rfl, hr5, hn5⟩, hb5⟩
        have HR5 := hide hr5
        have HN5 := hide hn5
        have HB5 := hide (below_up HB4.out hb5 HB4.out.size)
        clear hr5 hn5 hb5 HCC HSL
        obtain ⟨hv5, hgr5⟩ := HV4.out.more OK4.out HB5.out (A := A5) (fun a e => ⟨Nat.le_trans HB4.out.size (HN5.out a e).1, (HN5.out a e).2⟩)
        have HP := put_any g { S with used := u } q ⟨A5, c5, ⟨false, D5, 0⟩⟩ T _ w5 hv5 hgr5.2.2.2 HWF.out.rise (by show S.m.length ≤ 100000; have := HWF.out.nodes; have := HWF.out.n10; omega) (by omega) hck HR5.out (fun a e => .inr ⟨a, e, rfl⟩)
        unfold encN at HP
        simp only at HP
        rw [show ((0 : Nat) : Int) = 0 from rfl, HN5'.out] at HP
        have HPP := hide HP
        have HGR := hide hgr5
        clear HP hv5 hgr5
        go_wp2_with fail
        have h9 := HPP.out
        with_reducible refine Calls.mono h9 ?_
        rintro e w6 ⟨rfl, hv6, hk6⟩
        have HV6 := hide hv6
        have HK6 := hide hk6
        clear hv6 hk6
        go_wp2
        go_ret
        rw [HE.out, HD5.out]
        refine ⟨rfl, _, HV6.out, ?_, ?_⟩
        · have g1 := HGR.out
          have s1 := HK4.out.size
          have s2 := HK6.out.size
          exact ⟨fun k h => .inl h, g1.2.1, fun k h => (g1.2.2.1 k h).imp_right (fun h => Nat.le_trans s1 h), fun k hk => ⟨Nat.lt_of_lt_of_le (g1.2.2.2.1 k hk).1 s2, (g1.2.2.2.1 k hk).2⟩, fun k hk => Nat.lt_of_lt_of_le (g1.2.2.2.2 k hk) s2⟩
        · exact (HK4.out.trans (Kp.of_below HB5.out _)).trans (HK6.out.mono (fun k h => .inl h))
end Go.Proofs.YtkajhdbcnmafcaaGreatDoor
namespace Go.Proofs.YtkajhdbcnmafcaaGreatDoor
open Go.RowKit Go.Deep Go.Maps Ln Pth Vf
attribute [local go_sem] bt_eq fld0 fld1 fld2 mkMap

theorem FsPost.later {g : Nat} {r : St × Nat} {T N : Nat → Prop} {w w1 w' : World} {e : Ending} (hb : Below w.heap.size w w1) (h : FsPost g r T N w1 e w') : FsPost g r T N w e w' := by
  obtain ⟨h1, N', hv, ⟨g1, g2, g3, g4⟩, hk⟩ := h
  have hs := hb.size
  exact ⟨h1, N', hv, ⟨fun k h => .inl h, g2, fun k h => (g3 k h).imp_right (Nat.le_trans hs), g4⟩, (Kp.of_below hb T).trans (hk.mono (fun k h => .inl h))⟩
set_option maxRecDepth 100000 in
/-- the node that is at a path -/
theorem node_in {g : Nat} {S : St} {T N : Nat → Prop} {w : World} (h : VS g S T N w) (q : List UInt8) (n : Nd) (hn : getG S.m (bs q) = some n) (hq : q.length ≤ 100000) : ∃ (b : Nat) (e : En), e.nd = n ∧ w.cell? ⟨g, 0, none⟩ = some (.map (some b)) ∧
    (Instr.lookup 84 (.map (some b)) (.string (bs q)) false).run Tryz.prog w = .ok (encN e) w ∧ RG encB 1 w e.A e.nd.data ∧ ∀ a, e.A = some a → N a.block := by
  obtain ⟨b, P, h1, h2, hgb, hg, hm, hS, hx⟩ := h
  have hlk := nlook1 hm (s := bs q) (by rw [bs_size]; omega)
  rw [hS, strip_get] at hn
  cases hgp : getG P (bs q) with
  | none => rw [hgp] at hn; cases hn
  | some e =>
    rw [hgp] at hn hlk
    injection hn with hn
    exact ⟨b, e, hn, cellOf hg (j := 0) rfl, hlk, hx _ (getG_mem hgp)⟩
set_option maxRecDepth 100000 in
set_option maxHeartbeats 2000000 in
theorem mkdir_any (g : Nat) (S : St) (p : T) (T N : Nat → Prop) (w : World) (h : VS g S T N w) (ok : OkTN T N w) (hS : WfS S) (hm : MX w) (hp : p.length ≤ 50000) (hck : S.clock ≤ 1000000000) :
    Calls Tryz.prog 20 #[.pointer (some ⟨g, 0, none⟩), .string (bs p)] w (FsPost g (mkdirS S p) T N w) := by
  have HH : Hs (VS g S) w := ⟨T, N, h, ok⟩
  have HA := hide (vabs_any g S p w HH hm hp)
  have hl := absS_len S p
  have hR : mkdirS S p = if (absS S p).2 ≠ 0 then (S, (absS S p).2) else if kindM S.m (absS S p).1 ≠ 0 then (S, 12) else if S.m.length + 1 ≤ S.nodes ∧ S.used ≤ S.bytes then (Vf.putS S (absS S p).1 true [], 0) else (S, 13) := rfl
  unfold AbsPost at HA
  obtain ⟨q, hq⟩ : ∃ q, (absS S p).1 = q := ⟨_, rfl⟩
  obtain ⟨e, he⟩ : ∃ q, (absS S p).2 = q := ⟨_, rfl⟩
  rw [hq] at HA hR hl
  rw [he] at HA hR
  have HK := hide (fun W (hb : Below w.heap.size w W) => kind_any g S q W (HH.below (VS.fr g S) hb) (by omega))
  have HROOM := hide (fun W (hb : Below w.heap.size w W) => room_int g S hS 1 0 W (HH.below (VS.fr g S) hb) (by omega) (by omega) (by omega) (by omega))
  obtain ⟨kk, hkk⟩ : ∃ y, kindM S.m q = y := ⟨_, rfl⟩
  rw [hkk] at HK hR
  have HR := hide hR
  have H := hide h
  have OK := hide ok
  have HWF := hide hS
  clear hR he h ok hS HH hq hm hkk
  by_cases c1 : e = 0
  case neg =>
    obtain ⟨t1, t2⟩ := ne0 c1
    have HE := hide (HR.out.trans (if_pos c1))
    clear c1
    go_enter Tryz.func20, Tryz.ntmps20
    go_wp2_with fail
    refine HA.out.mono ?_
    rintro e w1 ⟨rfl, hb⟩
    have HB := hide hb
    clear hb
    go_wp2
    go_ret
    rw [HE.out]
    exact FsPost.stay H.out OK.out HB.out
  subst c1
  have hRQ := HR.out.trans (if_neg (by simp))
  by_cases k0 : kk = 0
  case neg =>
    obtain ⟨t1, t2⟩ := ne0 k0
    have HE := hide (hRQ.trans (if_pos k0))
    clear k0 hRQ
    go_enter Tryz.func20, Tryz.ntmps20
    go_wp2_with fail
    refine HA.out.mono ?_
    rintro e w1 ⟨rfl, hb⟩
    have HB := hide hb
    clear hb
    go_wp2_with fail
    refine (HK.out w1 HB.out).mono ?_
    rintro e w2 ⟨rfl, hb⟩
    have HB2 := hide (below_up HB.out hb HB.out.size)
    clear hb
    go_wp2
    go_ret
    rw [HE.out]
    exact FsPost.stay H.out OK.out HB2.out
  subst k0
  have HRQ := hide (hRQ.trans (if_neg (by simp)))
  clear hRQ
  go_enter Tryz.func20, Tryz.ntmps20
  go_wp2_with fail
  refine HA.out.mono ?_
  rintro e w1 ⟨rfl, hb⟩
  have HB := hide hb
  clear hb
  go_wp2_with fail
  refine (HK.out w1 HB.out).mono ?_
  rintro e w2 ⟨rfl, hb⟩
  have HB2 := hide (below_up HB.out hb HB.out.size)
  clear hb
  go_wp2_with fail
  refine (HROOM.out w2 HB2.out).mono ?_
  rintro e w3 ⟨rfl, hd⟩
  have HB3 := hide (below_up HB2.out hd.below HB2.out.size)
  clear hd
  obtain ⟨rb, hrb⟩ : ∃ rb, decide ((S.m.length : Int) + 1 ≤ S.nodes ∧ (S.used : Int) + 0 ≤ (S.bytes : Int)) = rb := ⟨_, rfl⟩
  rw [hrb]
  have HRB := hide (show rb = true ↔ (S.m.length + 1 ≤ S.nodes ∧ S.used ≤ S.bytes) by rw [← hrb, decide_eq_true_iff]; omega)
  clear hrb
  cases rb with
  | false =>
    have HE := hide (HRQ.out.trans (if_neg (fun h => by have := HRB.out.2 h; cases this)))
    go_wp2
    go_ret
    rw [HE.out]
    exact FsPost.stay H.out OK.out HB3.out
  | true =>
    have HE := hide (HRQ.out.trans (if_pos (HRB.out.1 rfl)))
    obtain ⟨hv3, ok3⟩ := H.out.stay OK.out HB3.out
    have HP := put_any g S q ⟨none, 0, ⟨true, [], 0⟩⟩ T N w3 hv3 ok3 HWF.out.rise (by have := HWF.out.nodes; have := HWF.out.n10; omega) (by omega) hck (RG.nil _ _) (fun a e => by cases e)
    unfold encN at HP
    simp only [List.length_nil] at HP
    rw [show ((0 : Nat) : Int) = 0 from rfl] at HP
    have HPP := hide HP
    have OK3 := hide ok3
    clear HP hv3 ok3
    go_wp2_with fail
    refine HPP.out.mono ?_
    rintro e w6 ⟨rfl, hv6, hk6⟩
    have HV6 := hide hv6
    have HK6 := hide hk6
    clear hv6 hk6
    go_wp2
    go_ret
    rw [HE.out]
    exact ⟨rfl, N, HV6.out, GrowN.refl OK.out (Nat.le_trans HB3.out.size HK6.out.size), (Kp.of_below HB3.out T).trans (HK6.out.mono (fun k h => .inl h))⟩
set_option maxRecDepth 100000 in
set_option maxHeartbeats 2000000 in
theorem touch_any (g : Nat) (S : St) (p : T) (T N : Nat → Prop) (w : World) (h : VS g S T N w) (ok : OkTN T N w) (hS : WfS S) (hm : MX w) (hp : p.length ≤ 50000) (hby : S.bytes ≤ 400000) (hck : S.clock ≤ 1000000000) :
    Calls Tryz.prog 22 #[.pointer (some ⟨g, 0, none⟩), .string (bs p)] w (FsPost g (touchS S p) T N w) := by
  have HH : Hs (VS g S) w := ⟨T, N, h, ok⟩
  have HA := hide (vabs_any g S p w HH hm hp)
  have hl := absS_len S p
  have hR : touchS S p = if (absS S p).2 ≠ 0 then (S, (absS S p).2) else if (absS S p).1 = [47] then (S, 0) else match getG S.m (bs (absS S p).1) with
    | none => writeS S p [] false
    | some n => (Vf.putS S (absS S p).1 n.dir n.data, 0) := rfl
  unfold AbsPost at HA
  obtain ⟨q, hq⟩ : ∃ q, (absS S p).1 = q := ⟨_, rfl⟩
  obtain ⟨e, he⟩ : ∃ q, (absS S p).2 = q := ⟨_, rfl⟩
  rw [hq] at HA hR hl
  rw [he] at HA hR
  have HK := hide (fun W (hb : Below w.heap.size w W) => kind_any g S q W (HH.below (VS.fr g S) hb) (by omega))
  have HW := hide (fun W (hb : Below w.heap.size w W) => (write_any g S p [] false none 0 T N W (h.stay ok hb).1 (h.stay ok hb).2 hS (hm.below hb) hp hby (by simp) hck (RG.nil _ _)).mono (fun _ _ h => FsPost.later hb h))
  have HR := hide hR
  have H := hide h
  have OK := hide ok
  have HWF := hide hS
  clear hR he h ok hS HH hq hm
  by_cases c1 : e = 0
  case neg =>
    obtain ⟨t1, t2⟩ := ne0 c1
    have HE := hide (HR.out.trans (if_pos c1))
    clear c1
    go_enter Tryz.func22, Tryz.ntmps22
    go_wp2_with fail
    refine HA.out.mono ?_
    rintro e w1 ⟨rfl, hb⟩
    have HB := hide hb
    clear hb
    go_wp2
    go_ret
    rw [HE.out]
    exact FsPost.stay H.out OK.out HB.out
  subst c1
  have hRQ := HR.out.trans (if_neg (by simp))
  by_cases q1 : q = [47]
  · have ht : ((bs q).toList == [47]) = true := by rw [bs_toList, q1]; rfl
    have HE := hide (hRQ.trans (if_pos q1))
    clear hRQ q1
    go_enter Tryz.func22, Tryz.ntmps22
    go_wp2_with fail
    refine HA.out.mono ?_
    rintro e w1 ⟨rfl, hb⟩
    have HB := hide hb
    clear hb
    go_wp2
    go_ret
    rw [HE.out]
    exact FsPost.stay H.out OK.out HB.out
  have ht : ((bs q).toList == [47]) = false := by rw [bs_toList]; simpa using q1
  have hRR := hRQ.trans (if_neg q1)
  clear hRQ
  cases hgn : getG S.m (bs q) with
  | none =>
    rw [hgn] at hRR
    have hk : kindM S.m q = 0 := by unfold kindM; rw [if_neg q1, hgn]
    rw [hk] at HK
    have HE := hide hRR
    clear hRR q1 hk hgn
    go_enter Tryz.func22, Tryz.ntmps22
    go_wp2_with fail
    refine HA.out.mono ?_
    rintro e w1 ⟨rfl, hb⟩
    have HB := hide hb
    clear hb
    go_wp2_with fail
    refine (HK.out w1 HB.out).mono ?_
    rintro e w2 ⟨rfl, hb⟩
    have HB2 := hide (below_up HB.out hb HB.out.size)
    clear hb
    have HW2 := HW.out w2 HB2.out
    have HW3 := hide HW2
    clear HW2
    obtain ⟨r, hr⟩ : ∃ r, writeS S p [] false = r := ⟨_, rfl⟩
    rw [hr] at HW3 HE
    unfold FsPost at HW3
    clear hr
    go_wp2_with fail
    refine HW3.out.mono ?_
    rintro e w3 ⟨rfl, h3⟩
    have H3 := hide h3
    clear h3
    go_wp2
    go_ret
    rw [HE.out]
    exact ⟨rfl, H3.out⟩
  | some n =>
    rw [hgn] at hRR
    have hk : kindM S.m q ≠ 0 := by unfold kindM; rw [if_neg q1, hgn]; simp only; split <;> simp
    obtain ⟨kk, hkk⟩ : ∃ y, kindM S.m q = y := ⟨_, rfl⟩
    rw [hkk] at HK hk
    obtain ⟨t1, t2⟩ := ne0 hk
    have HE := hide hRR
    have HGN := hide hgn
    clear hRR q1 hk hgn hkk
    go_enter Tryz.func22, Tryz.ntmps22
    go_wp2_with fail
    refine HA.out.mono ?_
    rintro e w1 ⟨rfl, hb⟩
    have HB := hide hb
    clear hb
    go_wp2_with fail
    refine (HK.out w1 HB.out).mono ?_
    rintro e w2 ⟨rfl, hb⟩
    have HB2 := hide (below_up HB.out hb HB.out.size)
    clear hb
    obtain ⟨hv2, ok2⟩ := H.out.stay OK.out HB2.out
    obtain ⟨bm, en, hen, hc0, hlk, hr2, hn2⟩ := node_in hv2 q n HGN.out (by omega)
    have HP := put_any g S q en T N w2 hv2 ok2 HWF.out.rise (by have := HWF.out.nodes; have := HWF.out.n10; omega) (by omega) hck hr2 hn2
    rw [hen] at HP
    have HPP := hide HP
    clear HP hv2 ok2 hr2 hn2 hen
    obtain ⟨ev, hev⟩ : ∃ v, encN en = v := ⟨_, rfl⟩
    rw [hev] at HPP hlk
    clear hev
    go_wp2_with fail
    refine HPP.out.mono ?_
    rintro e w6 ⟨rfl, hv6, hk6⟩
    have HV6 := hide hv6
    have HK6 := hide hk6
    clear hv6 hk6
    go_wp2
    go_ret
    rw [HE.out]
    exact ⟨rfl, N, HV6.out, GrowN.refl OK.out (Nat.le_trans HB2.out.size HK6.out.size), (Kp.of_below HB2.out T).trans (HK6.out.mono (fun k h => .inl h))⟩
end Go.Proofs.YtkajhdbcnmafcaaGreatDoor
