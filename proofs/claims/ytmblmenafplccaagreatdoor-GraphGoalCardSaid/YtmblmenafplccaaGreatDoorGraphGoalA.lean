/- Walk of graph.Goal: the first target that is none of those with a dot ahead. What the law GraphGoal needs: a rule's targets set anew; its names. -/
import Derived.Test.YtmblmenafplccaaGreatDoorFindWalkA
import Derived.Test.YtmblmenafplccaaGreatDoorMkSep
import Derived.Test.YtmblmenafplccaaGreatDoorGraphLawA
namespace Go.Proofs.YtmblmenafplccaaGreatDoor
open Go.RowKit Go.Deep Go.Maps Ln Pth Vf
set_option linter.unusedSimpArgs false
set_option linter.unusedVariables false
attribute [local go_sem] bt_eq

/-- whether a target may be the first goal -/
def gdT (s : ByteArray) : Bool := !Lib.hasPrefix s.data.toList [46] || decide ((47 : UInt8) ∈ s.data.toList)
def goal1 (r : Rl) : Option ByteArray := match r.tg.2.2 with
  | [] => none
  | t :: l => if (t :: l).any isP = true then none else if gdT t = true then some t else none
def goalO : List Rl → Option ByteArray
  | [] => none
  | r :: L => match goal1 r with
    | some t => some t
    | none => goalO L
theorem goalO_drop {L : List Rl} {k : Nat} {r : Rl} (h : L[k]? = some r) : goalO (L.drop k) = match goal1 r with
    | some t => some t
    | none => goalO (L.drop (k + 1)) := by
  obtain ⟨h1, h2⟩ := List.getElem?_eq_some_iff.1 h
  rw [List.drop_eq_getElem_cons h1, h2, goalO]
theorem goalO_app (r : Rl) : ∀ L : List Rl, goalO (L ++ [r]) = match goalO L with
    | some t => some t
    | none => goal1 r
  | [] => by rw [List.nil_append, goalO, goalO]; cases goal1 r <;> rfl
  | x :: L => by
    rw [List.cons_append, goalO, goalO, goalO_app r L]
    cases goal1 x <;> rfl
def gR (o : Option ByteArray) : Value := match o with
  | some t => .tuple #[.string t, .bool true]
  | none => .tuple #[.string ⟨#[]⟩, .bool false]
set_option maxRecDepth 100000 in
theorem goal1_any (s : ByteArray) (w : World) : Calls Tryz.prog 47 #[.string s] w fun e w' => e = .returned (.bool (isP s)) ∧ w = w' := by
  have h := Tryz.strings_Contains_one s 37 w
  rw [show decide (0 ≤ Lib.indexByte s.data.toList 37) = isP s from decide_eq_decide.2 (ixb_mem 37 _)] at h
  have H := hide h
  clear h
  generalize isP s = b at *
  go_enter Tryz.func47, Tryz.ntmps47
  go_wp2_with fail
  refine H.out.mono ?_
  rintro e w' ⟨rfl, rfl⟩
  go_wp2
  go_ret
  exact ⟨rfl, rfl⟩
set_option maxRecDepth 100000 in
set_option maxHeartbeats 4000000 in
theorem ggoal_any (mac : Value) (A : Option Addr) (c : Nat) (L : List Rl) (w : World) (hA : RLS w A L) (hl : L.length ≤ 1000) :
    Calls Tryz.prog 15 #[.agg #[mac, .slice A L.length c]] w fun e w' => e = .returned (gR (goalO L)) ∧ Below w.heap.size w w' := by
  have HA := hide hA
  obtain ⟨n, hn⟩ : ∃ n, L.length = n := ⟨_, rfl⟩
  have HN := hide hn
  rw [hn] at hl ⊢
  clear hn hA
  have hn1 : (n : Int) ≤ 1000 := by omega
  go_enter Tryz.func15, Tryz.ntmps15
  go_wp2
  have HB0 := hide ((Below.refl w.heap.size w).alloc (Nat.le_refl _) (.cells #[mac, .slice A n c] 26))
  generalize w.alloc (.cells #[mac, .slice A n c] 26) = W at HB0 ⊢
  go_loopw [2, 3, 5, 6, 10] (fun _ _ _ _ v10 wr => ∃ k : Nat, v10 = .int .i64 k ∧ k ≤ n ∧ Hid (goalO (L.drop k) = goalO L) ∧ Below w.heap.size w wr) (fun _ _ _ _ v10 _ => n - (intOf v10).toNat)
  case atStart => exact ⟨0, rfl, by omega, rfl, HB0.out⟩
  case round =>
    obtain ⟨k, rfl, hk, HG, hb⟩ := hrel
    have HB := hide hb
    have HAR := hide (HA.out.below hb)
    clear hb
    by_cases hlt : k < n
    · obtain ⟨r, hr⟩ : ∃ r, L[k]? = some r := ⟨L[k]'(by have := HN.out; omega), List.getElem?_eq_getElem _⟩
      obtain ⟨g, o, rfl, hg, hc⟩ := HAR.out.1 k r hr
      have HRK := hide (HAR.out.2 r (List.mem_of_getElem? hr))
      have hc1 : wr.cell? ⟨g, o + k * 3, none⟩ = some (sv r.tg) := by have := hc 0 _ rfl; simpa using this
      have hc2 : wr.cell? ⟨g, o + k * 3 + 1, none⟩ = some (sv r.nd) := hc 1 _ rfl
      have hc3 : wr.cell? ⟨g, o + k * 3 + 2, none⟩ = some (sv r.rc) := hc 2 _ rfl
      have HD := hide (HG.out.symm.trans (goalO_drop hr))
      have b1 : (k : Int) < (n : Int) := by omega
      obtain ⟨x1, x2, x3, hsn⟩ : ∃ A n c, sv r.nd = .slice A n c := ⟨_, _, _, rfl⟩
      obtain ⟨y1, y2, y3, hsr⟩ : ∃ A n c, sv r.rc = .slice A n c := ⟨_, _, _, rfl⟩
      rw [hsn] at hc2
      rw [hsr] at hc3
      clear hc hr
      have hbr := HB.out.alloc HB.out.size (.cells #[sv r.tg, .slice x1 x2 x3, .slice y1 y2 y3] 30)
      have HBR := hide hbr
      have hbx := (Below.refl wr.heap.size wr).alloc (Nat.le_refl _) (.cells #[sv r.tg, .slice x1 x2 x3, .slice y1 y2 y3] 30)
      have hnb := heapNew wr (.cells #[sv r.tg, .slice x1 x2 x3, .slice y1 y2 y3] 30)
      have hbw := below_up HB.out hbx HB.out.size
      have HTG := hide (HRK.out.tg.below hbx)
      have hlt1 := HRK.out.t1
      have hg1 : goal1 r = match r.tg.2.2 with
        | [] => none
        | t :: l => if (t :: l).any isP = true then none else if gdT t = true then some t else none := rfl
      obtain ⟨⟨At, ct, Lt⟩, hrt⟩ : ∃ x : SRow, r.tg = x := ⟨_, rfl⟩
      rw [hrt] at hc1 hbr hbx hnb HBR HTG hlt1 hg1 hbw
      dsimp only at HTG hlt1 hg1
      clear HRK hrt hsn hsr
      cases Lt with
      | nil =>
        have HE := hide (show goalO (L.drop (k + 1)) = goalO L by rw [HD.out, hg1])
        have hl0 : sv (At, ct, ([] : List ByteArray)) = .slice At 0 ct := rfl
        rw [hl0] at hc1 HBR
        clear hg1 HD hbr hbx hnb hbw
        go_wp2
        go_roundw
        case rel => exact ⟨k + 1, by go_num, by omega, HE.out, HBR.out⟩
        case measure => simp [intOf]; omega
      | cons t l =>
        dsimp only at hg1
        obtain ⟨gt, ot, rfl, hgt, hct⟩ := HTG.out 0 t rfl
        rw [Nat.add_zero] at hct
        have HCF := hide (contf_any isP 47 #[] (fun _ _ => by kernel_rfl) (some ⟨gt, ot, none⟩) ct (t :: l) (wr.alloc (.cells #[sv (some ⟨gt, ot, none⟩, ct, t :: l), .slice x1 x2 x3, .slice y1 y2 y3] 30)) (by omega) HTG.out (fun W' x _ hb' => (goal1_any x W').mono (fun e w' ⟨h1, h2⟩ => ⟨h1, h2 ▸ hb'⟩)))
        have hl0 : sv (some (⟨gt, ot, none⟩ : Addr), ct, t :: l) = .slice (some ⟨gt, ot, none⟩) (l.length + 1) ct := rfl
        rw [hl0] at hc1 HBR hnb HCF hct hbx
        simp only [List.length_cons] at HCF
        obtain ⟨m, hm⟩ : ∃ m, l.length = m := ⟨_, rfl⟩
        rw [hm] at hc1 HBR hnb HCF hct hbx
        obtain ⟨pb, hpb⟩ : ∃ b, (t :: l).any isP = b := ⟨_, rfl⟩
        rw [hpb] at HCF
        have hm0 : ((m : Int) + 1 == 0) = false := by simp; omega
        have hm1 : (0 : Int) < (m : Int) + 1 := by omega
        cases pb with
        | true =>
          have HE := hide (show goalO (L.drop (k + 1)) = goalO L by rw [HD.out, hg1, hpb, if_pos rfl])
          have HBR2 := hide (HBR.out)
          clear hg1 HD hbr hbx hnb hbw hm hct hpb HTG
          go_wp2_with fail
          refine HCF.out.mono ?_
          rintro e w2 ⟨rfl, hb2⟩
          have HB2 := hide (below_up HBR.out hb2 HBR.out.size)
          clear hb2
          go_wp2
          go_roundw
          case rel => exact ⟨k + 1, by go_num, by omega, HE.out, HB2.out⟩
          case measure => simp [intOf]; omega
        | false =>
          rw [hpb, if_neg (by simp)] at hg1
          have hpf := Tryz.strings_HasPrefix t ⟨#[46]⟩
          rw [show (⟨#[46]⟩ : ByteArray).data.toList = [46] from rfl] at hpf
          have hcn := Tryz.strings_Contains_one t 47
          rw [show decide (0 ≤ Lib.indexByte t.data.toList 47) = decide ((47 : UInt8) ∈ t.data.toList) from decide_eq_decide.2 (ixb_mem 47 _)] at hcn
          have hgd : gdT t = (!Lib.hasPrefix t.data.toList [46] || decide ((47 : UInt8) ∈ t.data.toList)) := rfl
          obtain ⟨hp, hhp⟩ : ∃ b, Lib.hasPrefix t.data.toList [46] = b := ⟨_, rfl⟩
          obtain ⟨cb, hcb⟩ : ∃ b, decide ((47 : UInt8) ∈ t.data.toList) = b := ⟨_, rfl⟩
          rw [hhp] at hpf hgd
          rw [hcb] at hcn hgd
          have HPF := hide hpf
          have HCN := hide hcn
          have HG1 := hide hg1
          have HGD := hide hgd
          have HNB := hide hnb
          have HCT := hide hct
          clear hg1 hgd hpf hcn hbr hbw hm hpb HTG hhp hcb hnb hct hbx
          go_wp2_with fail
          refine HCF.out.mono ?_
          rintro e w2 ⟨rfl, hb2⟩
          have HB2 := hide (below_up HBR.out hb2 HBR.out.size)
          have hn0 := cellOf ((hb2.block wr.heap.size (by simp)).trans HNB.out) (j := 0) (v := .slice (some ⟨gt, ot, none⟩) (m + 1) ct) rfl
          have hct := (hb2.cell (p := ⟨gt, ot, none⟩) (by simpa using hgt)).trans HCT.out
          clear hb2
          go_wp2_with fail
          refine (HPF.out w2).mono ?_
          rintro e w' ⟨rfl, hw'⟩
          obtain rfl := hw'.symm
          cases hp with
          | false =>
            have HE := hide (show goalO L = some t by rw [HD.out, HG1.out, HGD.out]; rfl)
            go_wp2
            go_ret2
            rw [HE.out]
            exact ⟨rfl, HB2.out⟩
          | true =>
            go_wp2_with fail
            refine (HCN.out w2).mono ?_
            rintro e w' ⟨rfl, hw'⟩
            obtain rfl := hw'.symm
            cases cb with
            | true =>
              have HE := hide (show goalO L = some t by rw [HD.out, HG1.out, HGD.out]; rfl)
              go_wp2
              go_ret2
              rw [HE.out]
              exact ⟨rfl, HB2.out⟩
            | false =>
              have HE := hide (show goalO (L.drop (k + 1)) = goalO L by rw [HD.out, HG1.out, HGD.out]; rfl)
              go_wp2
              go_roundw
              case rel => exact ⟨k + 1, by go_num, by omega, HE.out, HB2.out⟩
              case measure => simp [intOf]; omega
    · obtain rfl : n = k := by omega
      have HE := hide (show goalO L = none by
        have := HG.out
        rw [List.drop_of_length_le (by have := HN.out; omega)] at this
        exact this.symm)
      go_wp2
      go_ret2
      rw [HE.out]
      exact ⟨rfl, HB.out⟩
/-- a makefile as Plan wants it -/
theorem MKA.rls {B gm : Nat} {L : List Rl} {T N : Nat → Prop} {w : World} (h : MKA B gm L T N w) : ∃ A c, w.heap[gm]? = some (.cells #[.slice none 0 0, .slice A L.length c] 26) ∧ RLS w A L := by
  obtain ⟨vr, h1, h2, h3, h4, h5, h6⟩ := h
  obtain ⟨A, c, rfl, _, hs, _⟩ := h3.slice encRl_len
  exact ⟨A, c, h2, hs, fun r hr => (h6 r hr).1⟩
end Go.Proofs.YtmblmenafplccaaGreatDoor
namespace Go.Proofs.YtmblmenafplccaaGreatDoor
open Go.RowKit Go.Deep Go.Maps Ln Pth Vf
set_option linter.unusedSimpArgs false
set_option linter.unusedVariables false

theorem valsG_rl {L : List Rl} {r r' : Rl} (h1 : r.nd = r'.nd) (h2 : r.rc = r'.rc) : (valsG encRl (L ++ [r])).set (L.length * 3) (sv r'.tg) = valsG encRl (L ++ [r']) := by
  rw [valsG_app, valsG_app, List.set_append_right _ _ (by rw [valsG_len encRl_len]; omega), valsG_len encRl_len, show L.length * 3 - L.length * 3 = 0 by omega]
  simp [valsG, encRl, h1, h2]
theorem MKA.set {B gm : Nat} {L : List Rl} {r : Rl} {T N : Nat → Prop} {wr : World} (h : MKA B gm (L ++ [r]) T N wr) (ok : OkTN T N wr) {A : Option Addr} {k c : Nat} (hc : wr.cell? ⟨gm, 1, none⟩ = some (.slice A k c)) :
    ∃ br, A = some ⟨br, 0, none⟩ ∧ k = L.length + 1 ∧ wr.cell? ⟨br, L.length * 3, none⟩ = some (sv r.tg) ∧ wr.frozen? ⟨br, L.length * 3, none⟩ = false ∧ br < wr.heap.size ∧
      ∀ (W : World) (x : SRow), Below wr.heap.size wr W → SR W x.1 x.2.2 → (∀ a, x.1 = some a → wr.heap.size ≤ a.block ∧ a.block < W.heap.size) → x.2.2.length ≤ 100000 →
        ∃ T' N', MKA B gm (L ++ [⟨x, r.nd, r.rc⟩]) T' N' (W.setCell ⟨br, L.length * 3, none⟩ (sv x)) ∧ GrowN wr (W.setCell ⟨br, L.length * 3, none⟩ (sv x)) T N T' N' ∧ Kp wr (W.setCell ⟨br, L.length * 3, none⟩ (sv x)) T := by
  obtain ⟨vr, h1, h2, h3, h4, h5, h6⟩ := h
  obtain ⟨A', c', rfl, _, hs, _, hz⟩ := h3.slice encRl_len
  have e := (cellOf h2 (j := 1) rfl).symm.trans hc
  simp only [Option.some.injEq, Value.slice.injEq] at e
  obtain ⟨rfl, rfl, rfl⟩ := e
  obtain ⟨br, ob, e, hbr, hco⟩ := hs L.length r (by simp)
  subst e
  obtain ⟨br', e⟩ := hz _ rfl
  injection e with e1 e2
  subst e1 e2
  have hT := h4 br rfl
  have hown := World.ownsRow.lt h3 br rfl
  refine ⟨br, rfl, by simp, by have := hco 0 _ rfl; simpa using this, World.ownsRow.frozenAt h3 _, hown.2, ?_⟩
  intro W x hb hx hxn hxl
  have hks := kp_set (w := W) (g := br) (j := L.length * 3) (v := sv x)
  have hk : Kp wr (W.setCell ⟨br, L.length * 3, none⟩ (sv x)) T := (Kp.of_below hb T).trans (hks.mono fun k e => .inl (e ▸ hT.1))
  have h3W := h3.of (w' := W) (fun k e => hb.block k (World.ownsRow.lt h3 k e).2)
  obtain ⟨hst, _⟩ := World.ownsRow.stored h3W (L.length * 3) (sv x)
  rw [show (valsG encRl (L ++ [r])).set (L.length * 3) (sv x) = _ from valsG_rl (r := r) (r' := ⟨x, r.nd, r.rc⟩) rfl rfl] at hst
  have hNblk : ∀ k, (N k ∨ (wr.heap.size ≤ k ∧ k < W.heap.size)) → (W.setCell ⟨br, L.length * 3, none⟩ (sv x)).heap[k]? = W.heap[k]? := fun k hN => by
    have e1 : k ≠ br := fun e => by
      subst e
      rcases hN with h | h
      · exact (ok.1 k hT.1).2 h
      · omega
    refine hks.block k ?_ e1
    rcases hN with h | h
    · have := ok.2 k h; have := hb.size; omega
    · exact h.2
  refine ⟨T, fun k => N k ∨ (wr.heap.size ≤ k ∧ k < W.heap.size), ⟨.slice (some ⟨br, 0, none⟩) (L ++ [r]).length _, h1, ?_, ?_, h4, fun k hk => .inl (h5 k hk), ?_⟩, ⟨fun k h => .inl h, fun k h => .inl h, fun k h => h.imp_right (·.1), ⟨fun k h => ⟨Nat.lt_of_lt_of_le (ok.1 k h).1 hk.size, fun hN => ?_⟩, fun k hN => ?_⟩⟩, hk⟩
  · have hgl := (ok.1 gm h1).1
    exact (hks.block gm (by have := hb.size; omega) (fun e => hT.2 e.symm)).trans ((hb.block gm hgl).trans h2)
  · unfold OwnG
    rw [show (L ++ [(⟨x, r.nd, r.rc⟩ : Rl)]).length = (L ++ [r]).length by simp]
    exact hst
  · intro y hy
    rcases List.mem_append.1 hy with hy | hy
    · have := h6 y (by simp [hy])
      exact ⟨(this.1.below hb).ofN (this.2.mono fun k hk => .inl hk) hks.size hNblk, this.2.mono fun k hk => .inl hk⟩
    · obtain rfl := List.mem_singleton.1 hy
      have h7 := h6 r (by simp)
      have h8 := (h7.1.below hb).ofN (h7.2.mono (N' := fun k => N k ∨ (wr.heap.size ≤ k ∧ k < W.heap.size)) fun k hk => .inl hk) hks.size hNblk
      refine ⟨⟨hx.ofN hks.size (fun a e h1 => hNblk _ (.inr (hxn a e))), h8.nd, h8.rc, hxl, h8.n1, h8.r1⟩, fun a e h1 => .inr (hxn a e), fun a e h1 => .inl (h7.2.nd a e h1), fun a e h1 => .inl (h7.2.rc a e h1)⟩
  · rcases hN with hN | hN
    · exact (ok.1 k h).2 hN
    · have := (ok.1 k h).1; omega
  · have h1 := hks.size
    have h2 := hb.size
    rcases hN with hN | hN
    · have := ok.2 k hN; omega
    · omega
/-- what the makefile's first goal is, by the text that the law holds -/
def wantO (s : ByteArray) : Option ByteArray := if s = ⟨#[]⟩ then none else some s
theorem goal1_two (A : Option Addr) (c : Nat) (nd rc : SRow) (s : ByteArray) : goal1 ⟨(A, c, [s, ⟨#[122]⟩]), nd, rc⟩ = if isP s = true then none else if gdT s = true then some s else none := by
  have : isP ⟨#[122]⟩ = false := by decide
  unfold goal1
  dsimp only
  rw [List.any_cons, List.any_cons, List.any_nil, this]
  simp
theorem goal1_pct (A : Option Addr) (c : Nat) (nd rc : SRow) : goal1 ⟨(A, c, [⟨#[37, 46, 111]⟩]), nd, rc⟩ = none := rfl
theorem gg0 : isP ⟨#[46, 80, 72, 79, 78, 89]⟩ = false ∧ gdT ⟨#[46, 80, 72, 79, 78, 89]⟩ = false := by decide
theorem gg2 : isP ⟨#[46, 99, 46, 111]⟩ = false ∧ gdT ⟨#[46, 99, 46, 111]⟩ = false := by decide
theorem gg3 : isP ⟨#[97]⟩ = false ∧ gdT ⟨#[97]⟩ = true := by decide
theorem gg4 : isP ⟨#[46, 47, 98]⟩ = false ∧ gdT ⟨#[46, 47, 98]⟩ = true := by decide
theorem gg5 : isP ⟨#[46, 120, 47, 121]⟩ = false ∧ gdT ⟨#[46, 120, 47, 121]⟩ = true := by decide
theorem goal_skip {L : List Rl} {want : ByteArray} {r : Rl} (h : goalO L = wantO want) (hr : goal1 r = none) : goalO (L ++ [r]) = wantO want := by
  rw [goalO_app, h, hr]
  unfold wantO
  split <;> rename_i h1 <;> split at h1 <;> simp_all
theorem goal_more {L : List Rl} {want : ByteArray} {r : Rl} (h : goalO L = wantO want) (hw : want ≠ ⟨#[]⟩) : goalO (L ++ [r]) = wantO want := by
  rw [goalO_app, h]
  unfold wantO
  rw [if_neg hw]
theorem goal_first {L : List Rl} {s : ByteArray} {r : Rl} (h : goalO L = wantO ⟨#[]⟩) (hr : goal1 r = some s) (hs : s ≠ ⟨#[]⟩) : goalO (L ++ [r]) = wantO s := by
  rw [goalO_app, h, hr]
  unfold wantO
  rw [if_pos rfl, if_neg hs]
end Go.Proofs.YtmblmenafplccaaGreatDoor
