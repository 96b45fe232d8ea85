/- Walks of graph.is, and of the search's waits, may and enter. Walk of the search's enter. -/
import Derived.Test.YtmblmenafplccaaGreatDoorGraphRep
import Derived.Test.YtmblmenafplccaaGreatDoorHeld
import Derived.Deep.LoopGhost
namespace Go.Proofs.YtmblmenafplccaaGreatDoor
open Go.RowKit Go.Deep Go.Maps Ln Pth Vf
set_option linter.unusedSimpArgs false
set_option linter.unusedVariables false
attribute [local go_sem] bt_eq

set_option maxRecDepth 100000 in
set_option maxHeartbeats 1000000 in
theorem is_any (g : Nat) (S : St) (cwd s : T) (w : World) (h : Hs (VS g S) w) (hm : MX w) (h1 : cwd.length ≤ 100000) (h2 : s.length ≤ 100000) :
    Calls Tryz.prog 118 #[.pointer (some ⟨g, 0, none⟩), .string (bs cwd), .string (bs s)] w fun e w' => e = .returned (.bool (decide (kindT S cwd s ≠ 0))) ∧ Below w.heap.size w w' := by
  have HA := hide (abs_any cwd s w hm h1 h2)
  have hl : (absF cwd s).1.length ≤ 200 := by
    rcases absF_cases cwd s with ⟨l, g, e, _⟩ | ⟨e, _⟩
    · rw [e]; exact g.len
    · rw [e]; simp
  have hR : kindT S cwd s = if (absF cwd s).2 ≠ 0 then 0 else kindS S (absF cwd s).1 := rfl
  have HK := hide (fun W (hb : Below w.heap.size w W) => vkind_any g S (absF cwd s).1 W (h.below (VS.fr g S) hb) (hm.below hb) (by omega))
  unfold AbsPost at HA
  obtain ⟨q, hq⟩ : ∃ q, (absF cwd s).1 = q := ⟨_, rfl⟩
  obtain ⟨e, he⟩ : ∃ q, (absF cwd s).2 = q := ⟨_, rfl⟩
  rw [hq] at HA HK hR
  rw [he] at HA hR
  have HR := hide hR
  clear hR hq he hl h hm
  by_cases c1 : e = 0
  case neg =>
    obtain ⟨t1, t2⟩ := ne0 c1
    have HE := hide (HR.out.trans (if_pos c1))
    clear c1
    go_enter Tryz.func118, Tryz.ntmps118
    go_wp2_with fail
    refine HA.out.mono ?_
    rintro e w1 ⟨rfl, hb⟩
    have HB := hide hb
    clear hb
    go_wp2
    go_ret
    rw [HE.out]
    exact ⟨rfl, HB.out⟩
  subst c1
  have HE := hide (HR.out.trans (if_neg (by simp)))
  obtain ⟨kk, hkk⟩ : ∃ k, kindS S q = k := ⟨_, rfl⟩
  rw [hkk] at HK HE
  go_enter Tryz.func118, Tryz.ntmps118
  go_wp2_with fail
  refine HA.out.mono ?_
  rintro e w1 ⟨rfl, hb⟩
  have HB := hide hb
  clear hb
  go_wp2_with fail
  refine (HK.out w1 HB.out).mono ?_
  rintro e w2 ⟨rfl, hb⟩
  have HB2 := hide (below_up HB.out hb HB.out.size)
  clear hb
  go_wp2
  go_ret
  rw [HE.out, show decide (kk ≠ 0) = ((kk : Int) != 0) from by
    rw [Bool.eq_iff_iff]
    simp]
  exact ⟨rfl, HB2.out⟩
/-- where the first is, and whether there is one -/
def IdxPostO (p : OpV → Bool) (L : List OpV) (w : World) (e : Ending) (w' : World) : Prop := ∃ i : Int, e = .returned (.int .i64 i) ∧ decide (0 ≤ i) = L.any p ∧ Below w.heap.size w w'
set_option maxRecDepth 100000 in
set_option maxHeartbeats 1000000 in
theorem idxo_any (p : OpV → Bool) (g : Nat) (lb : Array Value) (eg : ∀ args w, (callFunc g args).run Tryz.prog w = .ok (.enter g args) w) (A : Option Addr) (c : Nat) (L : List OpV) (w : World) (hl : L.length ≤ 1000000) (hA : RG encO 2 w A L)
    (hf : ∀ (W : World) (x : OpV), x ∈ L → Below w.heap.size w W → Calls Tryz.prog g (#[.agg #[.string x.t, sv x.nd]] ++ lb) W fun e w' => e = .returned (.bool (p x)) ∧ Below w.heap.size w w') :
    Calls Tryz.prog 132 #[.slice A L.length c, .func (.func g) #[] lb] w (IdxPostO p L w) := by
  have HA := hide hA
  have HF := hide hf
  clear hA hf
  obtain ⟨n, hn⟩ : ∃ n, L.length = n := ⟨_, rfl⟩
  have HN := hide hn
  rw [hn] at hl ⊢
  clear hn
  have hn1 : (n : Int) ≤ 1000000 := by omega
  go_enter Tryz.func132, Tryz.ntmps132
  go_wp2
  go_loopw [5, 8] (fun _v5 v8 wr => ∃ k : Nat, v8 = .int .i64 k ∧ k ≤ n ∧ Hid ((L.take k).any p = false) ∧ Below w.heap.size w wr) (fun _ v8 _ => n - (intOf v8).toNat)
  case atStart => exact ⟨0, rfl, by omega, rfl, Below.refl _ _⟩
  case round =>
    obtain ⟨k, rfl, hk, HP, hb⟩ := hrel
    have HB := hide hb
    have HAR := hide (HA.out.below hb)
    clear hb
    by_cases hlt : k < n
    · obtain ⟨x, hx⟩ : ∃ x, L[k]? = some x := ⟨L[k]'(by have := HN.out; omega), List.getElem?_eq_getElem _⟩
      obtain ⟨gs, o, rfl, hg, hc⟩ := HAR.out k x hx
      have hc1 : wr.cell? ⟨gs, o + k * 2, none⟩ = some (.string x.t) := by have := hc 0 _ rfl; simpa using this
      have hc2 : wr.cell? ⟨gs, o + k * 2 + 1, none⟩ = some (sv x.nd) := hc 1 _ rfl
      clear hc
      have hcall := HF.out wr x (List.mem_of_getElem? hx) HB.out
      have b1 : (k : Int) < (n : Int) := by omega
      have HX := hide hx
      clear hx
      obtain ⟨pb, hpb⟩ : ∃ b, p x = b := ⟨_, rfl⟩
      rw [hpb] at hcall
      have HPB := hide hpb
      clear hpb
      have HC := hide hcall
      clear hcall
      go_wp2_with fail
      refine HC.out.mono ?_
      rintro e w' ⟨rfl, hb'⟩
      have HB' := hide hb'
      clear hb'
      cases pb with
      | true =>
        go_wp2
        go_ret
        refine ⟨_, rfl, ?_, HB'.out⟩
        have : L.any p = true := List.any_eq_true.2 ⟨x, List.mem_of_getElem? HX.out, HPB.out⟩
        rw [this]
        simp
      | false =>
        go_wp2
        go_roundw
        case rel =>
          refine ⟨k + 1, by go_num, by omega, ?_, HB'.out⟩
          show (L.take (k + 1)).any p = false
          rw [List.take_add_one, List.any_append, HP.out, HX.out]
          simpa using HPB.out
        case measure => simp [intOf]; omega
    · obtain rfl : k = n := by omega
      have HE := hide (show L.any p = false by
        have := HP.out
        rwa [List.take_of_length_le (by have := HN.out; omega)] at this)
      go_wp2
      go_ret
      exact ⟨_, rfl, by rw [HE.out]; rfl, HB.out⟩
set_option maxRecDepth 100000 in
theorem conto_any (p : OpV → Bool) (g : Nat) (lb : Array Value) (eg : ∀ args w, (callFunc g args).run Tryz.prog w = .ok (.enter g args) w) (A : Option Addr) (c : Nat) (L : List OpV) (w : World) (hl : L.length ≤ 1000000) (hA : RG encO 2 w A L)
    (hf : ∀ (W : World) (x : OpV), x ∈ L → Below w.heap.size w W → Calls Tryz.prog g (#[.agg #[.string x.t, sv x.nd]] ++ lb) W fun e w' => e = .returned (.bool (p x)) ∧ Below w.heap.size w w') :
    Calls Tryz.prog 115 #[.slice A L.length c, .func (.func g) #[] lb] w fun e w' => e = .returned (.bool (L.any p)) ∧ Below w.heap.size w w' := by
  have HI := hide (idxo_any p g lb eg A c L w hl hA hf)
  clear hA hf
  obtain ⟨n, hn⟩ : ∃ n, L.length = n := ⟨_, rfl⟩
  rw [hn] at HI ⊢
  clear hn hl
  obtain ⟨b, hb⟩ : ∃ b, L.any p = b := ⟨_, rfl⟩
  unfold IdxPostO at HI
  rw [hb] at HI ⊢
  clear hb
  go_enter Tryz.func115, Tryz.ntmps115
  go_wp2_with fail
  refine HI.out.mono ?_
  rintro e w' ⟨i, rfl, hi, hb'⟩
  have HI2 := hide hi
  have HB := hide hb'
  clear hi hb'
  go_wp2
  go_ret
  refine ⟨?_, HB.out⟩
  rw [← HI2.out]
  rfl
set_option maxRecDepth 100000 in
theorem waits1_any (x : ByteArray) (o : OpV) (px : Nat) (w : World) (hp : w.cell? ⟨px, 0, none⟩ = some (.string x)) :
    Calls Tryz.prog 116 (#[.agg #[.string o.t, sv o.nd]] ++ #[.pointer (some ⟨px, 0, none⟩)]) w fun e w' => e = .returned (.bool (decide (o.t = x))) ∧ Below w.heap.size w w' := by
  have hpl := World.block_lt_of_cell? _ _ hp
  have hb := (Below.refl w.heap.size w).alloc (Nat.le_refl _) (.cells #[.string o.t, sv o.nd] 125)
  have hp2 := (hb.cell (p := ⟨px, 0, none⟩) hpl).trans hp
  have HB := hide hb
  clear hb hp
  show Calls _ _ #[.agg #[.string o.t, sv o.nd], .pointer (some ⟨px, 0, none⟩)] _ _
  go_enter Tryz.func116, Tryz.ntmps116
  go_wp2
  go_ret
  refine ⟨?_, HB.out⟩
  have : (o.t.data == x.data) = decide (o.t = x) := by
    rw [Bool.eq_iff_iff, beq_iff_eq, decide_eq_true_eq]
    exact ⟨fun h => ByteArray.ext h, fun h => by rw [h]⟩
  simp [ByteArray.toList_eq, this]
set_option maxRecDepth 100000 in
set_option maxHeartbeats 1000000 in
theorem waits_any (w0 : World) (C : Gc) (g b : Nat) (s : Se) (T : Nat → Prop) (x : ByteArray) (w : World) (h : GI w0 C g b s T w) (hl : s.way.length ≤ 1000) :
    Calls Tryz.prog 85 #[.pointer (some ⟨g, 0, none⟩), .string x] w fun e w' => e = .returned (.bool (s.way.any fun o => decide (o.1 = x))) ∧ Below w.heap.size w w' := by
  obtain ⟨A4, c4, A6, c6, wl, h1, h2, h3, h4, h5, h6, h7, h8, h9, h10⟩ := h.opn
  have hwl : wl.length ≤ 1000 := by rw [way_len h6] at hl; exact hl
  have hba := (Below.refl w.heap.size w).alloc (Nat.le_refl _) (.cells #[.string x] 9)
  have hnb := heapNew w (.cells #[.string x] 9)
  have hcf := conto_any (fun o => decide (o.t = x)) 116 #[.pointer (some ⟨w.heap.size, 0, none⟩)] (fun _ _ => by kernel_rfl) A4 c4 wl (w.alloc (.cells #[.string x] 9)) (by omega) (h8.below hba) (fun W o _ hb => waits1_any x o w.heap.size W (cellOf ((hb.block w.heap.size (by simp)).trans hnb) (j := 0) rfl) |>.mono fun e w' ⟨h3, h4⟩ => ⟨h3, below_up hb h4 hb.size⟩)
  have he : (wl.any fun o => decide (o.t = x)) = s.way.any fun o => decide (o.1 = x) := by
    rw [h6, List.any_reverse, List.any_map]
    rfl
  rw [he] at hcf
  obtain ⟨q, hq⟩ : ∃ q, (s.way.any fun o => decide (o.1 = x)) = q := ⟨_, rfl⟩
  rw [hq] at hcf ⊢
  obtain ⟨n, hn⟩ : ∃ n, wl.length = n := ⟨_, rfl⟩
  rw [hn] at hcf h1
  have hgl := (h.tw g h.tg).2
  have hc4 := cellOf ((hba.block g hgl).trans h1) (j := 4) (v := .slice A4 n c4) rfl
  have HCF := hide hcf
  have HBA := hide hba
  clear hcf he hq hn hba hnb h h1 h2 h3 h4 h5 h6 h7 h8 h9 h10
  go_enter Tryz.func85, Tryz.ntmps85
  go_wp2_with fail
  refine HCF.out.mono ?_
  rintro e w' ⟨rfl, hb⟩
  have HB := hide (below_up HBA.out hb HBA.out.size)
  clear hb
  go_wp2
  go_ret
  exact ⟨rfl, HB.out⟩
/-- what a search asks of Plan and of is -/
structure GH (w0 : World) (C : Gc) (P : ByteArray → Pn) (is : ByteArray → Bool) (Gd : ByteArray → Prop) : Prop where
  plan : ∀ (W : World) (x : ByteArray), Gd x → Below w0.heap.size w0 W → Calls Tryz.prog 117 #[.agg #[C.v0, C.v1], .pointer (some ⟨C.gf, 0, none⟩), .string C.cwd, .string x] W (PlanPost W (P x))
  is_ : ∀ (W : World) (x : ByteArray), Gd x → Below w0.heap.size w0 W → Calls Tryz.prog 118 #[.pointer (some ⟨C.gf, 0, none⟩), .string C.cwd, .string x] W fun e w' => e = .returned (.bool (is x)) ∧ Below W.heap.size W w'
  next : ∀ x, Gd x → ∀ y ∈ (P x).needs, Gd y
  len : ∀ x, Gd x → (P x).needs.length ≤ 900000
  size : ∀ x, Gd x → x.size ≤ 1000000000
theorem pfld0 (x y z u : Value) (w : World) : (Instr.field 142 (.agg #[x, y, z, u]) 0).run Tryz.prog w = .ok x w := by kernel_rfl
theorem pfld3 (x y z u : Value) (w : World) : (Instr.field 142 (.agg #[x, y, z, u]) 3).run Tryz.prog w = .ok u w := by kernel_rfl
attribute [local go_sem] pfld0 pfld3
set_option linter.unusedSimpArgs false in
set_option maxRecDepth 100000 in
set_option maxHeartbeats 2000000 in
theorem may_any (w0 : World) (C : Gc) (P : ByteArray → Pn) (is : ByteArray → Bool) (Gd : ByteArray → Prop) (hG : GH w0 C P is Gd) (g b : Nat) (s : Se) (T : Nat → Prop) (x : ByteArray) (w : World) (h : GI w0 C g b s T w) (hx : Gd x) (hw : s.way.length ≤ 1000) (hme : s.met.length ≤ 1000) :
    Calls Tryz.prog 86 #[.pointer (some ⟨g, 0, none⟩), .string x] w fun e w' => e = .returned (.int .i64 (mayF P is x s)) ∧ Below w.heap.size w w' := by
  obtain ⟨A4, c4, A6, c6, wl, h1, h2, h3, h4, h5, h6, h7, h8, h9, h10⟩ := h.opn
  have hln := fun ty => h.met.len h.nodup ty
  have hbw := h.below
  have HPL := hide (fun (W : World) (hb : Below w.heap.size w W) => hG.plan W x hx (below_up hbw hb hbw.size))
  have HIS := hide (fun (W : World) (hb : Below w.heap.size w W) => hG.is_ W x hx (below_up hbw hb hbw.size))
  have hc0 := cellOf h1 (j := 0) (v := C.v0) rfl
  have hc1 := cellOf h1 (j := 1) (v := C.v1) rfl
  have hc2 := cellOf h1 (j := 2) (v := .pointer (some ⟨C.gf, 0, none⟩)) rfl
  have hc3 := cellOf h1 (j := 3) (v := .string C.cwd) rfl
  have hwl := way_len h6
  have hR : mayF P is x s = if 1000 ≤ s.met.length ∨ 200 ≤ s.way.length then 3 else if (P x).rule = false ∧ is x = false then 19 else 0 := rfl
  obtain ⟨m, hm⟩ : ∃ m, s.met.length = m := ⟨_, rfl⟩
  obtain ⟨n, hn⟩ : ∃ n, wl.length = n := ⟨_, rfl⟩
  rw [hm, hwl, hn] at hR
  rw [hwl, hn] at hw
  rw [hm] at hln hme
  rw [hn] at h1
  have hc4 := cellOf h1 (j := 4) (v := .slice A4 n c4) rfl
  have hc5 := cellOf h1 (j := 5) (v := .map (some b)) rfl
  have hgl := (h.tw g h.tg).2
  have hni : (n : Int) ≤ 1000 := by omega
  have hmi : (m : Int) ≤ 1000 := by omega
  obtain ⟨q, hq⟩ : ∃ q, P x = q := ⟨_, rfl⟩
  obtain ⟨ib, hib⟩ : ∃ q, is x = q := ⟨_, rfl⟩
  rw [hq] at HPL hR
  rw [hib] at HIS hR
  obtain ⟨stem, hst⟩ : ∃ s, bs q.stem = s := ⟨_, rfl⟩
  obtain ⟨ru, hru⟩ : ∃ s, q.rule = s := ⟨_, rfl⟩
  unfold PlanPost at HPL
  rw [hst, hru] at HPL
  rw [hru] at hR
  have HR := hide hR
  have HBR := hide (Below.refl w.heap.size w)
  clear hR hm hn hwl hq hib hst hru h2 h3 h4 h5 h6 h7 h8 h9 h10 h hx hG hbw h1
  by_cases c1 : 1000 ≤ m
  · have HE := hide (HR.out.trans (if_pos (.inl c1)))
    have d1 : decide ((1000 : Int) ≤ (m : Int)) = true := by simp; omega
    have d1' : decide (1000 ≤ m) = true := by simp; omega
    clear c1
    go_enter Tryz.func86, Tryz.ntmps86
    go_wp2
    go_ret
    rw [HE.out]
    exact ⟨rfl, HBR.out⟩
  have d1 : decide ((1000 : Int) ≤ (m : Int)) = false := by simp; omega
  have d1' : decide (1000 ≤ m) = false := by simp; omega
  by_cases c2 : 200 ≤ n
  · have HE := hide (HR.out.trans (if_pos (.inr c2)))
    have d2 : decide ((200 : Int) ≤ (n : Int)) = true := by simp; omega
    have d2' : decide (200 ≤ n) = true := by simp; omega
    clear c2 c1
    go_enter Tryz.func86, Tryz.ntmps86
    go_wp2
    go_ret
    rw [HE.out]
    exact ⟨rfl, HBR.out⟩
  have d2 : decide ((200 : Int) ≤ (n : Int)) = false := by simp; omega
  have d2' : decide (200 ≤ n) = false := by simp; omega
  have HRR := hide (HR.out.trans (if_neg (by omega)))
  clear HR c1 c2
  go_enter Tryz.func86, Tryz.ntmps86
  go_wp2_with fail
  have hbd : Below w.heap.size w w.drew := (Below.refl _ _).drew
  cases ru with
  | true =>
    have HE := hide (HRR.out.trans (if_neg (by simp)))
    refine wp_region_held_drew (S := (fun w' => w'.cell? ⟨g, 0, none⟩ = some C.v0 ∧ w'.cell? ⟨g, 1, none⟩ = some C.v1 ∧ w'.cell? ⟨g, 2, none⟩ = some (.pointer (some ⟨C.gf, 0, none⟩)) ∧ w'.cell? ⟨g, 3, none⟩ = some (.string C.cwd))) (by kernel_rfl) ⟨hc0, hc1, hc2, hc3⟩ (fun hHeld => ?_)
    refine wpAnyH_tk (i := 0) (oi := _) (v := ?v0) rfl rfl (by kernel_rfl) (by kernel_rfl) (by kernel_rfl) (fun _ _ _ h => h) (Or.inl ⟨by kernel_rfl, ?y0⟩) (by assumption) ?r0
    case y0 =>
      intro w hSw
      (try dsimp only at hSw)
      go_simp
      try with_reducible rfl
    try simp only [List.setIfInBounds_toArray, List.set_cons_zero, List.set_cons_succ]
    refine wpAnyH_tk (i := 1) (oi := _) (v := ?v1) rfl rfl (by kernel_rfl) (by kernel_rfl) (by kernel_rfl) (fun _ _ _ h => h) (Or.inl ⟨by kernel_rfl, ?y1⟩) (by assumption) ?r1
    case y1 =>
      intro w hSw
      (try dsimp only at hSw)
      go_simp
      try with_reducible rfl
    try simp only [List.setIfInBounds_toArray, List.set_cons_zero, List.set_cons_succ]
    refine wpAnyH_tk (i := 2) (oi := _) (v := ?v2) rfl rfl (by kernel_rfl) (by kernel_rfl) (by kernel_rfl) (fun _ _ _ h => h) (Or.inl ⟨by kernel_rfl, ?y2⟩) (by assumption) ?r2
    case y2 =>
      intro w hSw
      (try dsimp only at hSw)
      go_simp
      try with_reducible rfl
    try simp only [List.setIfInBounds_toArray, List.set_cons_zero, List.set_cons_succ]
    refine wpAnyH_tk (i := 3) (oi := _) (v := ?v3) rfl rfl (by kernel_rfl) (by kernel_rfl) (by kernel_rfl) (fun _ _ _ h => h) (Or.inl ⟨by kernel_rfl, ?y3⟩) (by assumption) ?r3
    case y3 =>
      intro w hSw
      (try dsimp only at hSw)
      go_simp
      try with_reducible rfl
    try simp only [List.setIfInBounds_toArray, List.set_cons_zero, List.set_cons_succ]
    refine wpAnyH_tk (i := 4) (oi := _) (v := ?v4) rfl rfl (by kernel_rfl) (by kernel_rfl) (by kernel_rfl) (fun _ _ _ h => h) (Or.inl ⟨by kernel_rfl, ?y4⟩) (by assumption) ?r4
    case y4 =>
      intro w hSw
      (try dsimp only at hSw)
      go_simp
      try with_reducible rfl
    try simp only [List.setIfInBounds_toArray, List.set_cons_zero, List.set_cons_succ]
    refine wpAnyH_tk (i := 5) (oi := _) (v := ?v5) rfl rfl (by kernel_rfl) (by kernel_rfl) (by kernel_rfl) (fun _ _ _ h => h) (Or.inl ⟨by kernel_rfl, ?y5⟩) (by assumption) ?r5
    case y5 =>
      intro w hSw
      (try dsimp only at hSw)
      go_simp
      try with_reducible rfl
    try simp only [List.setIfInBounds_toArray, List.set_cons_zero, List.set_cons_succ]
    refine wpAnyH_tk (i := 6) (oi := _) (v := ?v6) rfl rfl (by kernel_rfl) (by kernel_rfl) (by kernel_rfl) (fun _ _ _ h => h) (Or.inl ⟨by kernel_rfl, ?y6⟩) (by assumption) ?r6
    case y6 =>
      intro w hSw
      (try dsimp only at hSw)
      go_simp
      try with_reducible rfl
    try simp only [List.setIfInBounds_toArray, List.set_cons_zero, List.set_cons_succ]
    refine wpAnyH_tk (i := 7) (oi := _) (v := ?v7) rfl rfl (by kernel_rfl) (by kernel_rfl) (by kernel_rfl) (fun _ _ _ h => h) (Or.inl ⟨by kernel_rfl, ?y7⟩) (by assumption) ?r7
    case y7 =>
      intro w hSw
      (try dsimp only at hSw)
      go_simp
      try with_reducible rfl
    try simp only [List.setIfInBounds_toArray, List.set_cons_zero, List.set_cons_succ]
    refine wpAnyH_tk (i := 8) (oi := _) (v := ?v8) rfl rfl (by kernel_rfl) (by kernel_rfl) (by kernel_rfl) (fun _ _ _ h => h) (Or.inl ⟨by kernel_rfl, ?y8⟩) (by assumption) ?r8
    case y8 =>
      intro w hSw
      (try dsimp only at hSw)
      go_simp
      try with_reducible rfl
    try simp only [List.setIfInBounds_toArray, List.set_cons_zero, List.set_cons_succ]
    refine wpAnyH_tk (i := 9) (oi := _) (v := ?v9) rfl rfl (by kernel_rfl) (by kernel_rfl) (by kernel_rfl) (fun _ _ _ h => h) (Or.inl ⟨by kernel_rfl, ?y9⟩) (by assumption) ?r9
    case y9 =>
      intro w hSw
      (try dsimp only at hSw)
      go_simp
      try with_reducible rfl
    try simp only [List.setIfInBounds_toArray, List.set_cons_zero, List.set_cons_succ]
    refine wpAnyH_tk (i := 10) (oi := _) (v := ?v10) rfl rfl (by kernel_rfl) (by kernel_rfl) (by kernel_rfl) (fun _ _ _ h => h) (Or.inl ⟨by kernel_rfl, ?y10⟩) (by assumption) ?r10
    case y10 =>
      intro w hSw
      (try dsimp only at hSw)
      go_simp
      try with_reducible rfl
    try simp only [List.setIfInBounds_toArray, List.set_cons_zero, List.set_cons_succ]
    refine wpAnyH_tk (i := 11) (oi := _) (v := ?v11) rfl rfl (by kernel_rfl) (by kernel_rfl) (by kernel_rfl) (fun _ _ _ h => h) (Or.inl ⟨by kernel_rfl, ?y11⟩) (by assumption) ?r11
    case y11 =>
      intro w hSw
      (try dsimp only at hSw)
      go_simp
      try with_reducible rfl
    try simp only [List.setIfInBounds_toArray, List.set_cons_zero, List.set_cons_succ]
    refine wpAnyH_tk (i := 12) (oi := _) (v := ?v12) rfl rfl (by kernel_rfl) (by kernel_rfl) (by kernel_rfl) (fun _ _ _ h => h) (Or.inl ⟨by kernel_rfl, ?y12⟩) (by assumption) ?r12
    case y12 =>
      intro w hSw
      (try dsimp only at hSw)
      go_simp
      try with_reducible rfl
    try simp only [List.setIfInBounds_toArray, List.set_cons_zero, List.set_cons_succ]
    refine wpAnyH_ready (rs := [13]) (by kernel_rfl) (by simp) ?_
    refine AllReadyH.cons (o := _) rfl (fun K hK => ?_) AllReadyH.nil
    rw [if_pos (by kernel_rfl)]
    go_simp
    refine (HPL.out _ hbd).mono ?_
    rintro e w1 ⟨vn, vr, rfl, _, _, hb1⟩
    have hbx := below_up hbd hb1 hbd.size
    have y0 := (hbx.cell (p := ⟨g, 0, none⟩) hgl).trans hc0
    have y1 := (hbx.cell (p := ⟨g, 1, none⟩) hgl).trans hc1
    have y2 := (hbx.cell (p := ⟨g, 2, none⟩) hgl).trans hc2
    have y3 := (hbx.cell (p := ⟨g, 3, none⟩) hgl).trans hc3
    refine hK.out _ _ ⟨y0, y1, y2, y3⟩ (fun _ => ?_)
    clear hK K
    try simp only [Act.put, List.setIfInBounds_toArray, List.set_cons_zero, List.set_cons_succ]
    refine wpAnyH_tk (i := 14) (oi := _) (v := ?v14) rfl rfl (by kernel_rfl) (by kernel_rfl) (by kernel_rfl) (fun _ _ _ h => h) (Or.inl ⟨by kernel_rfl, ?y14⟩) (by assumption) ?r14
    case y14 =>
      intro w hSw
      (try dsimp only at hSw)
      go_simp
      try with_reducible rfl
    try simp only [List.setIfInBounds_toArray, List.set_cons_zero, List.set_cons_succ]
    refine wpAnyH_tk (i := 15) (oi := _) (v := ?v15) rfl rfl (by kernel_rfl) (by kernel_rfl) (by kernel_rfl) (fun _ _ _ h => h) (Or.inl ⟨by kernel_rfl, ?y15⟩) (by assumption) ?r15
    case y15 =>
      intro w hSw
      (try dsimp only at hSw)
      go_simp
      try with_reducible rfl
    try simp only [List.setIfInBounds_toArray, List.set_cons_zero, List.set_cons_succ]
    refine wpAnyH_tk (i := 16) (oi := _) (v := ?v16) rfl rfl (by kernel_rfl) (by kernel_rfl) (by kernel_rfl) (fun _ _ _ h => h) (Or.inl ⟨by kernel_rfl, ?y16⟩) (by assumption) ?r16
    case y16 =>
      intro w hSw
      (try dsimp only at hSw)
      go_simp
      try with_reducible rfl
    try simp only [List.setIfInBounds_toArray, List.set_cons_zero, List.set_cons_succ]
    refine wpAnyH_off (i := 17) (oi := _) rfl rfl (by kernel_rfl) (by kernel_rfl) (by kernel_rfl) (fun _ _ _ h => h) (by kernel_rfl) (by assumption) ?_
    try simp only [List.setIfInBounds_toArray, List.set_cons_zero, List.set_cons_succ]
    refine wpAnyH_off (i := 18) (oi := _) rfl rfl (by kernel_rfl) (by kernel_rfl) (by kernel_rfl) (fun _ _ _ h => h) (by kernel_rfl) (by assumption) ?_
    try simp only [List.setIfInBounds_toArray, List.set_cons_zero, List.set_cons_succ]
    refine wpAnyH_off (i := 19) (oi := _) rfl rfl (by kernel_rfl) (by kernel_rfl) (by kernel_rfl) (fun _ _ _ h => h) (by kernel_rfl) (by assumption) ?_
    try simp only [List.setIfInBounds_toArray, List.set_cons_zero, List.set_cons_succ]
    refine wpAnyH_off (i := 20) (oi := _) rfl rfl (by kernel_rfl) (by kernel_rfl) (by kernel_rfl) (fun _ _ _ h => h) (by kernel_rfl) (by assumption) ?_
    try simp only [List.setIfInBounds_toArray, List.set_cons_zero, List.set_cons_succ]
    refine wpAnyH_off (i := 21) (oi := _) rfl rfl (by kernel_rfl) (by kernel_rfl) (by kernel_rfl) (fun _ _ _ h => h) (by kernel_rfl) (by assumption) ?_
    try simp only [List.setIfInBounds_toArray, List.set_cons_zero, List.set_cons_succ]
    refine wpAnyH_off (i := 22) (oi := _) rfl rfl (by kernel_rfl) (by kernel_rfl) (by kernel_rfl) (fun _ _ _ h => h) (by kernel_rfl) (by assumption) ?_
    try simp only [List.setIfInBounds_toArray, List.set_cons_zero, List.set_cons_succ]
    refine wpAnyH_off (i := 23) (oi := _) rfl rfl (by kernel_rfl) (by kernel_rfl) (by kernel_rfl) (fun _ _ _ h => h) (by kernel_rfl) (by assumption) ?_
    try simp only [List.setIfInBounds_toArray, List.set_cons_zero, List.set_cons_succ]
    refine wpAnyH_off (i := 24) (oi := _) rfl rfl (by kernel_rfl) (by kernel_rfl) (by kernel_rfl) (fun _ _ _ h => h) (by kernel_rfl) (by assumption) ?_
    try simp only [List.setIfInBounds_toArray, List.set_cons_zero, List.set_cons_succ]
    refine wpAnyH_off (i := 25) (oi := _) rfl rfl (by kernel_rfl) (by kernel_rfl) (by kernel_rfl) (fun _ _ _ h => h) (by kernel_rfl) (by assumption) ?_
    try simp only [List.setIfInBounds_toArray, List.set_cons_zero, List.set_cons_succ]
    refine wpAnyH_off (i := 26) (oi := _) rfl rfl (by kernel_rfl) (by kernel_rfl) (by kernel_rfl) (fun _ _ _ h => h) (by kernel_rfl) (by assumption) ?_
    try simp only [List.setIfInBounds_toArray, List.set_cons_zero, List.set_cons_succ]
    refine wpAnyH_off (i := 27) (oi := _) rfl rfl (by kernel_rfl) (by kernel_rfl) (by kernel_rfl) (fun _ _ _ h => h) (by kernel_rfl) (by assumption) ?_
    try simp only [List.setIfInBounds_toArray, List.set_cons_zero, List.set_cons_succ]
    refine wpAnyH_tk (i := 28) (oi := _) (v := ?v28) rfl rfl (by kernel_rfl) (by kernel_rfl) (by kernel_rfl) (fun _ _ _ h => h) (Or.inl ⟨by kernel_rfl, ?y28⟩) (by assumption) ?r28
    case y28 =>
      intro w hSw
      (try dsimp only at hSw)
      go_simp
      try with_reducible rfl
    try simp only [List.setIfInBounds_toArray, List.set_cons_zero, List.set_cons_succ]
    refine wpAnyH_tk (i := 29) (oi := _) (v := ?v29) rfl rfl (by kernel_rfl) (by kernel_rfl) (by kernel_rfl) (fun _ _ _ h => h) (Or.inl ⟨by kernel_rfl, ?y29⟩) (by assumption) ?r29
    case y29 =>
      intro w hSw
      (try dsimp only at hSw)
      go_simp
      try with_reducible rfl
    try simp only [List.setIfInBounds_toArray, List.set_cons_zero, List.set_cons_succ]
    refine wpAnyH_done (by kernel_rfl) ?_ _
    have HBX := hide hbx
    clear hbx hb1 y0 y1 y2 y3
    go_wp2
    go_ret
    rw [HE.out]
    exact ⟨rfl, HBX.out⟩
  | false =>
    refine wp_region_held_drew (S := (fun w' => w'.cell? ⟨g, 0, none⟩ = some C.v0 ∧ w'.cell? ⟨g, 1, none⟩ = some C.v1 ∧ w'.cell? ⟨g, 2, none⟩ = some (.pointer (some ⟨C.gf, 0, none⟩)) ∧ w'.cell? ⟨g, 3, none⟩ = some (.string C.cwd))) (by kernel_rfl) ⟨hc0, hc1, hc2, hc3⟩ (fun hHeld => ?_)
    refine wpAnyH_tk (i := 0) (oi := _) (v := ?vB0) rfl rfl (by kernel_rfl) (by kernel_rfl) (by kernel_rfl) (fun _ _ _ h => h) (Or.inl ⟨by kernel_rfl, ?yB0⟩) (by assumption) ?rB0
    case yB0 =>
      intro w hSw
      (try dsimp only at hSw)
      go_simp
      try with_reducible rfl
    try simp only [List.setIfInBounds_toArray, List.set_cons_zero, List.set_cons_succ]
    refine wpAnyH_tk (i := 1) (oi := _) (v := ?vB1) rfl rfl (by kernel_rfl) (by kernel_rfl) (by kernel_rfl) (fun _ _ _ h => h) (Or.inl ⟨by kernel_rfl, ?yB1⟩) (by assumption) ?rB1
    case yB1 =>
      intro w hSw
      (try dsimp only at hSw)
      go_simp
      try with_reducible rfl
    try simp only [List.setIfInBounds_toArray, List.set_cons_zero, List.set_cons_succ]
    refine wpAnyH_tk (i := 2) (oi := _) (v := ?vB2) rfl rfl (by kernel_rfl) (by kernel_rfl) (by kernel_rfl) (fun _ _ _ h => h) (Or.inl ⟨by kernel_rfl, ?yB2⟩) (by assumption) ?rB2
    case yB2 =>
      intro w hSw
      (try dsimp only at hSw)
      go_simp
      try with_reducible rfl
    try simp only [List.setIfInBounds_toArray, List.set_cons_zero, List.set_cons_succ]
    refine wpAnyH_tk (i := 3) (oi := _) (v := ?vB3) rfl rfl (by kernel_rfl) (by kernel_rfl) (by kernel_rfl) (fun _ _ _ h => h) (Or.inl ⟨by kernel_rfl, ?yB3⟩) (by assumption) ?rB3
    case yB3 =>
      intro w hSw
      (try dsimp only at hSw)
      go_simp
      try with_reducible rfl
    try simp only [List.setIfInBounds_toArray, List.set_cons_zero, List.set_cons_succ]
    refine wpAnyH_tk (i := 4) (oi := _) (v := ?vB4) rfl rfl (by kernel_rfl) (by kernel_rfl) (by kernel_rfl) (fun _ _ _ h => h) (Or.inl ⟨by kernel_rfl, ?yB4⟩) (by assumption) ?rB4
    case yB4 =>
      intro w hSw
      (try dsimp only at hSw)
      go_simp
      try with_reducible rfl
    try simp only [List.setIfInBounds_toArray, List.set_cons_zero, List.set_cons_succ]
    refine wpAnyH_tk (i := 5) (oi := _) (v := ?vB5) rfl rfl (by kernel_rfl) (by kernel_rfl) (by kernel_rfl) (fun _ _ _ h => h) (Or.inl ⟨by kernel_rfl, ?yB5⟩) (by assumption) ?rB5
    case yB5 =>
      intro w hSw
      (try dsimp only at hSw)
      go_simp
      try with_reducible rfl
    try simp only [List.setIfInBounds_toArray, List.set_cons_zero, List.set_cons_succ]
    refine wpAnyH_tk (i := 6) (oi := _) (v := ?vB6) rfl rfl (by kernel_rfl) (by kernel_rfl) (by kernel_rfl) (fun _ _ _ h => h) (Or.inl ⟨by kernel_rfl, ?yB6⟩) (by assumption) ?rB6
    case yB6 =>
      intro w hSw
      (try dsimp only at hSw)
      go_simp
      try with_reducible rfl
    try simp only [List.setIfInBounds_toArray, List.set_cons_zero, List.set_cons_succ]
    refine wpAnyH_tk (i := 7) (oi := _) (v := ?vB7) rfl rfl (by kernel_rfl) (by kernel_rfl) (by kernel_rfl) (fun _ _ _ h => h) (Or.inl ⟨by kernel_rfl, ?yB7⟩) (by assumption) ?rB7
    case yB7 =>
      intro w hSw
      (try dsimp only at hSw)
      go_simp
      try with_reducible rfl
    try simp only [List.setIfInBounds_toArray, List.set_cons_zero, List.set_cons_succ]
    refine wpAnyH_tk (i := 8) (oi := _) (v := ?vB8) rfl rfl (by kernel_rfl) (by kernel_rfl) (by kernel_rfl) (fun _ _ _ h => h) (Or.inl ⟨by kernel_rfl, ?yB8⟩) (by assumption) ?rB8
    case yB8 =>
      intro w hSw
      (try dsimp only at hSw)
      go_simp
      try with_reducible rfl
    try simp only [List.setIfInBounds_toArray, List.set_cons_zero, List.set_cons_succ]
    refine wpAnyH_tk (i := 9) (oi := _) (v := ?vB9) rfl rfl (by kernel_rfl) (by kernel_rfl) (by kernel_rfl) (fun _ _ _ h => h) (Or.inl ⟨by kernel_rfl, ?yB9⟩) (by assumption) ?rB9
    case yB9 =>
      intro w hSw
      (try dsimp only at hSw)
      go_simp
      try with_reducible rfl
    try simp only [List.setIfInBounds_toArray, List.set_cons_zero, List.set_cons_succ]
    refine wpAnyH_tk (i := 10) (oi := _) (v := ?vB10) rfl rfl (by kernel_rfl) (by kernel_rfl) (by kernel_rfl) (fun _ _ _ h => h) (Or.inl ⟨by kernel_rfl, ?yB10⟩) (by assumption) ?rB10
    case yB10 =>
      intro w hSw
      (try dsimp only at hSw)
      go_simp
      try with_reducible rfl
    try simp only [List.setIfInBounds_toArray, List.set_cons_zero, List.set_cons_succ]
    refine wpAnyH_tk (i := 11) (oi := _) (v := ?vB11) rfl rfl (by kernel_rfl) (by kernel_rfl) (by kernel_rfl) (fun _ _ _ h => h) (Or.inl ⟨by kernel_rfl, ?yB11⟩) (by assumption) ?rB11
    case yB11 =>
      intro w hSw
      (try dsimp only at hSw)
      go_simp
      try with_reducible rfl
    try simp only [List.setIfInBounds_toArray, List.set_cons_zero, List.set_cons_succ]
    refine wpAnyH_tk (i := 12) (oi := _) (v := ?vB12) rfl rfl (by kernel_rfl) (by kernel_rfl) (by kernel_rfl) (fun _ _ _ h => h) (Or.inl ⟨by kernel_rfl, ?yB12⟩) (by assumption) ?rB12
    case yB12 =>
      intro w hSw
      (try dsimp only at hSw)
      go_simp
      try with_reducible rfl
    try simp only [List.setIfInBounds_toArray, List.set_cons_zero, List.set_cons_succ]
    refine wpAnyH_ready (rs := [13]) (by kernel_rfl) (by simp) ?_
    refine AllReadyH.cons (o := _) rfl (fun K hK => ?_) AllReadyH.nil
    rw [if_pos (by kernel_rfl)]
    go_simp
    refine (HPL.out _ hbd).mono ?_
    rintro e w1 ⟨vn, vr, rfl, _, _, hb1⟩
    have hbx := below_up hbd hb1 hbd.size
    have y0 := (hbx.cell (p := ⟨g, 0, none⟩) hgl).trans hc0
    have y1 := (hbx.cell (p := ⟨g, 1, none⟩) hgl).trans hc1
    have y2 := (hbx.cell (p := ⟨g, 2, none⟩) hgl).trans hc2
    have y3 := (hbx.cell (p := ⟨g, 3, none⟩) hgl).trans hc3
    refine hK.out _ _ ⟨y0, y1, y2, y3⟩ (fun _ => ?_)
    clear hK K
    try simp only [Act.put, List.setIfInBounds_toArray, List.set_cons_zero, List.set_cons_succ]
    refine wpAnyH_tk (i := 14) (oi := _) (v := ?vB14) rfl rfl (by kernel_rfl) (by kernel_rfl) (by kernel_rfl) (fun _ _ _ h => h) (Or.inl ⟨by kernel_rfl, ?yB14⟩) (by assumption) ?rB14
    case yB14 =>
      intro w hSw
      (try dsimp only at hSw)
      go_simp
      try with_reducible rfl
    try simp only [List.setIfInBounds_toArray, List.set_cons_zero, List.set_cons_succ]
    refine wpAnyH_tk (i := 15) (oi := _) (v := ?vB15) rfl rfl (by kernel_rfl) (by kernel_rfl) (by kernel_rfl) (fun _ _ _ h => h) (Or.inl ⟨by kernel_rfl, ?yB15⟩) (by assumption) ?rB15
    case yB15 =>
      intro w hSw
      (try dsimp only at hSw)
      go_simp
      try with_reducible rfl
    try simp only [List.setIfInBounds_toArray, List.set_cons_zero, List.set_cons_succ]
    refine wpAnyH_tk (i := 16) (oi := _) (v := ?vB16) rfl rfl (by kernel_rfl) (by kernel_rfl) (by kernel_rfl) (fun _ _ _ h => h) (Or.inl ⟨by kernel_rfl, ?yB16⟩) (by assumption) ?rB16
    case yB16 =>
      intro w hSw
      (try dsimp only at hSw)
      go_simp
      try with_reducible rfl
    try simp only [List.setIfInBounds_toArray, List.set_cons_zero, List.set_cons_succ]
    refine wpAnyH_tk (i := 17) (oi := _) (v := ?vB17) rfl rfl (by kernel_rfl) (by kernel_rfl) (by kernel_rfl) (fun _ _ _ h => h) (Or.inl ⟨by kernel_rfl, ?yB17⟩) (by assumption) ?rB17
    case yB17 =>
      intro w hSw
      (try dsimp only at hSw)
      go_simp
      try with_reducible rfl
    try simp only [List.setIfInBounds_toArray, List.set_cons_zero, List.set_cons_succ]
    refine wpAnyH_tk (i := 18) (oi := _) (v := ?vB18) rfl rfl (by kernel_rfl) (by kernel_rfl) (by kernel_rfl) (fun _ _ _ h => h) (Or.inl ⟨by kernel_rfl, ?yB18⟩) (by assumption) ?rB18
    case yB18 =>
      intro w hSw
      (try dsimp only at hSw)
      go_simp
      try with_reducible rfl
    try simp only [List.setIfInBounds_toArray, List.set_cons_zero, List.set_cons_succ]
    refine wpAnyH_tk (i := 19) (oi := _) (v := ?vB19) rfl rfl (by kernel_rfl) (by kernel_rfl) (by kernel_rfl) (fun _ _ _ h => h) (Or.inl ⟨by kernel_rfl, ?yB19⟩) (by assumption) ?rB19
    case yB19 =>
      intro w hSw
      (try dsimp only at hSw)
      go_simp
      try with_reducible rfl
    try simp only [List.setIfInBounds_toArray, List.set_cons_zero, List.set_cons_succ]
    refine wpAnyH_tk (i := 20) (oi := _) (v := ?vB20) rfl rfl (by kernel_rfl) (by kernel_rfl) (by kernel_rfl) (fun _ _ _ h => h) (Or.inl ⟨by kernel_rfl, ?yB20⟩) (by assumption) ?rB20
    case yB20 =>
      intro w hSw
      (try dsimp only at hSw)
      go_simp
      try with_reducible rfl
    try simp only [List.setIfInBounds_toArray, List.set_cons_zero, List.set_cons_succ]
    refine wpAnyH_tk (i := 21) (oi := _) (v := ?vB21) rfl rfl (by kernel_rfl) (by kernel_rfl) (by kernel_rfl) (fun _ _ _ h => h) (Or.inl ⟨by kernel_rfl, ?yB21⟩) (by assumption) ?rB21
    case yB21 =>
      intro w hSw
      (try dsimp only at hSw)
      go_simp
      try with_reducible rfl
    try simp only [List.setIfInBounds_toArray, List.set_cons_zero, List.set_cons_succ]
    refine wpAnyH_tk (i := 22) (oi := _) (v := ?vB22) rfl rfl (by kernel_rfl) (by kernel_rfl) (by kernel_rfl) (fun _ _ _ h => h) (Or.inl ⟨by kernel_rfl, ?yB22⟩) (by assumption) ?rB22
    case yB22 =>
      intro w hSw
      (try dsimp only at hSw)
      go_simp
      try with_reducible rfl
    try simp only [List.setIfInBounds_toArray, List.set_cons_zero, List.set_cons_succ]
    refine wpAnyH_tk (i := 23) (oi := _) (v := ?vB23) rfl rfl (by kernel_rfl) (by kernel_rfl) (by kernel_rfl) (fun _ _ _ h => h) (Or.inl ⟨by kernel_rfl, ?yB23⟩) (by assumption) ?rB23
    case yB23 =>
      intro w hSw
      (try dsimp only at hSw)
      go_simp
      try with_reducible rfl
    try simp only [List.setIfInBounds_toArray, List.set_cons_zero, List.set_cons_succ]
    refine wpAnyH_tk (i := 24) (oi := _) (v := ?vB24) rfl rfl (by kernel_rfl) (by kernel_rfl) (by kernel_rfl) (fun _ _ _ h => h) (Or.inl ⟨by kernel_rfl, ?yB24⟩) (by assumption) ?rB24
    case yB24 =>
      intro w hSw
      (try dsimp only at hSw)
      go_simp
      try with_reducible rfl
    try simp only [List.setIfInBounds_toArray, List.set_cons_zero, List.set_cons_succ]
    refine wpAnyH_tk (i := 25) (oi := _) (v := ?vB25) rfl rfl (by kernel_rfl) (by kernel_rfl) (by kernel_rfl) (fun _ _ _ h => h) (Or.inl ⟨by kernel_rfl, ?yB25⟩) (by assumption) ?rB25
    case yB25 =>
      intro w hSw
      (try dsimp only at hSw)
      go_simp
      try with_reducible rfl
    try simp only [List.setIfInBounds_toArray, List.set_cons_zero, List.set_cons_succ]
    refine wpAnyH_ready (rs := [26]) (by kernel_rfl) (by simp) ?_
    refine AllReadyH.cons (o := _) rfl (fun K hK => ?_) AllReadyH.nil
    rw [if_pos (by kernel_rfl)]
    go_simp
    refine (HIS.out _ hbx).mono ?_
    rintro e w2 ⟨rfl, hb2⟩
    have hbz := below_up hbx hb2 hbx.size
    have z0 := (hbz.cell (p := ⟨g, 0, none⟩) hgl).trans hc0
    have z1 := (hbz.cell (p := ⟨g, 1, none⟩) hgl).trans hc1
    have z2 := (hbz.cell (p := ⟨g, 2, none⟩) hgl).trans hc2
    have z3 := (hbz.cell (p := ⟨g, 3, none⟩) hgl).trans hc3
    refine hK.out _ _ ⟨z0, z1, z2, z3⟩ (fun _ => ?_)
    clear hK K
    try simp only [Act.put, List.setIfInBounds_toArray, List.set_cons_zero, List.set_cons_succ]
    refine wpAnyH_tk (i := 27) (oi := _) (v := ?vB27) rfl rfl (by kernel_rfl) (by kernel_rfl) (by kernel_rfl) (fun _ _ _ h => h) (Or.inl ⟨by kernel_rfl, ?yB27⟩) (by assumption) ?rB27
    case yB27 =>
      intro w hSw
      (try dsimp only at hSw)
      go_simp
      try with_reducible rfl
    try simp only [List.setIfInBounds_toArray, List.set_cons_zero, List.set_cons_succ]
    refine wpAnyH_tk (i := 28) (oi := _) (v := ?vB28) rfl rfl (by kernel_rfl) (by kernel_rfl) (by kernel_rfl) (fun _ _ _ h => h) (Or.inl ⟨by kernel_rfl, ?yB28⟩) (by assumption) ?rB28
    case yB28 =>
      intro w hSw
      (try dsimp only at hSw)
      go_simp
      try with_reducible rfl
    try simp only [List.setIfInBounds_toArray, List.set_cons_zero, List.set_cons_succ]
    refine wpAnyH_tk (i := 29) (oi := _) (v := ?vB29) rfl rfl (by kernel_rfl) (by kernel_rfl) (by kernel_rfl) (fun _ _ _ h => h) (Or.inl ⟨by kernel_rfl, ?yB29⟩) (by assumption) ?rB29
    case yB29 =>
      intro w hSw
      (try dsimp only at hSw)
      go_simp
      try with_reducible rfl
    try simp only [List.setIfInBounds_toArray, List.set_cons_zero, List.set_cons_succ]
    refine wpAnyH_done (by kernel_rfl) ?_ _
    have HBX := hide hbz
    clear hbx hbz hb1 hb2 y0 y1 y2 y3 z0 z1 z2 z3
    cases ib with
    | true =>
      have HE := hide (HRR.out.trans (if_neg (by simp)))
      go_wp2
      go_ret
      rw [HE.out]
      exact ⟨rfl, HBX.out⟩
    | false =>
      have HE := hide (HRR.out.trans (if_pos ⟨rfl, rfl⟩))
      go_wp2
      go_ret
      rw [HE.out]
      exact ⟨rfl, HBX.out⟩
end Go.Proofs.YtmblmenafplccaaGreatDoor
namespace Go.Proofs.YtmblmenafplccaaGreatDoor
open Go.RowKit Go.Deep Go.Maps Ln Pth Vf
set_option linter.unusedSimpArgs false
set_option linter.unusedVariables false
attribute [local go_sem] bt_eq pfld0 pfld3

theorem GI.push_run {w0 w1 w2 : World} {C : Gc} {g b : Nat} {s : Se} {T : Nat → Prop} (h : GI w0 C g b s T w1) (hb : Below w1.heap.size w1 w2) {A4 : Option Addr} {n c4 : Nat} (hc4 : w1.cell? ⟨g, 4, none⟩ = some (.slice A4 n c4)) (hn : n ≤ 1000) (x : ByteArray) (A5 : Option Addr) (c5 : Nat) (N : List ByteArray) (hN : SR w2 A5 N) (how : ∀ a, A5 = some a → N ≠ [] → w1.heap.size ≤ a.block) (hcap : N.length ≤ c5) :
    ∃ A9 c9 w4, (Builtin.append_ #[81, 81] 81 #[.slice A4 n c4, .slice (some ⟨w2.heap.size, 0, none⟩) 1 1]).run Tryz.prog (w2.alloc (.cells #[.string x, .slice A5 N.length c5] 125)) = .ok (.slice A9 (n + 1) c9) w4 ∧
      (w4.cell? ⟨g, 0, none⟩ = some C.v0 ∧ w4.cell? ⟨g, 1, none⟩ = some C.v1 ∧ w4.cell? ⟨g, 2, none⟩ = some (.pointer (some ⟨C.gf, 0, none⟩)) ∧ w4.cell? ⟨g, 3, none⟩ = some (.string C.cwd)) ∧ (w4.cell? ⟨g, 4, none⟩ = some (.slice A4 n c4) ∧ w4.frozen? ⟨g, 4, none⟩ = false) ∧
      ((w4.setCell ⟨g, 4, none⟩ (.slice A9 (n + 1) c9)).cell? ⟨g, 0, none⟩ = some C.v0 ∧ (w4.setCell ⟨g, 4, none⟩ (.slice A9 (n + 1) c9)).cell? ⟨g, 1, none⟩ = some C.v1 ∧ (w4.setCell ⟨g, 4, none⟩ (.slice A9 (n + 1) c9)).cell? ⟨g, 2, none⟩ = some (.pointer (some ⟨C.gf, 0, none⟩)) ∧ (w4.setCell ⟨g, 4, none⟩ (.slice A9 (n + 1) c9)).cell? ⟨g, 3, none⟩ = some (.string C.cwd)) ∧
      GIP w0 C g b ⟨(x, N) :: s.way, s.met, s.done⟩ T w1 (w4.setCell ⟨g, 4, none⟩ (.slice A9 (n + 1) c9)) := by
  have hba := hb.alloc hb.size (.cells #[.string x, .slice A5 N.length c5] 125)
  have h3 := h.step hba
  obtain ⟨A4', c4', A6, c6, wl, h1, h2, h3', h4, h5, h6, h7, h8, h9, h10⟩ := h3.opn
  have hgl := (h.tw g h.tg).2
  have e := (cellOf h1 (j := 4) (v := .slice A4' wl.length c4') rfl).symm.trans ((hba.cell (p := ⟨g, 4, none⟩) hgl).trans hc4)
  injection e with e
  injection e with e1 e2 e3
  subst e1 e2 e3
  have hx : RG encO 2 (w2.alloc (.cells #[.string x, .slice A5 N.length c5] 125)) (some ⟨w2.heap.size, 0, none⟩) [⟨x, (A5, c5, N)⟩] := rg_new (enc := encO) (n := 2) w2 ⟨x, (A5, c5, N)⟩ 125
  obtain ⟨v4, w4, hrun, ho, hg, hv⟩ := run_appG rowO encO_len encO_one (c := 1) h2 hx h3.below.size (by simp; omega)
  obtain ⟨A9, c9, e9, _, _, _, _⟩ := ho.slice encO_len
  rw [List.length_append, List.length_singleton] at e9
  subst e9
  have hgne : some g ≠ (Value.slice A4' wl.length c4').ownBlock := fun e => (h4 g e.symm).2.1 rfl
  have hg4 := (hg.block g (by have := hba.size; omega) hgne).trans h1
  have hg5 := heapSet (j := 4) hg4 (.slice A9 (wl.length + 1) c9)
  have hw : GIP w0 C g b ⟨(x, N) :: s.way, s.met, s.done⟩ T (w2.alloc (.cells #[.string x, .slice A5 N.length c5] 125)) (w4.setCell ⟨g, 4, none⟩ (.slice A9 (wl.length + 1) c9)) :=
    h3.push h1 h3' h4 h5 h6 h7 (o := ⟨x, (A5, c5, N)⟩) (hN.below ((Below.refl w2.heap.size w2).alloc (Nat.le_refl _) _)) ⟨fun a e h8 ht => by have := how a e h8; have := (h.tw _ ht).2; omega, hcap⟩ ho hg hv
  refine ⟨A9, c9, w4, hrun, ⟨cellOf hg4 (j := 0) rfl, cellOf hg4 (j := 1) rfl, cellOf hg4 (j := 2) rfl, cellOf hg4 (j := 3) rfl⟩, ⟨cellOf hg4 (j := 4) rfl, freeOf hg4 4⟩, ⟨cellOf hg5 (j := 0) rfl, cellOf hg5 (j := 1) rfl, cellOf hg5 (j := 2) rfl, cellOf hg5 (j := 3) rfl⟩, ?_⟩
  obtain ⟨T', f, k, gr⟩ := hw
  exact ⟨T', f, (Kp.of_below hba T).trans (k.mono fun q hq => .inl hq), fun q hq => (gr q hq).imp_right (Nat.le_trans hba.size)⟩
set_option linter.unusedSimpArgs false in
set_option maxRecDepth 100000 in
set_option maxHeartbeats 4000000 in
theorem enter_any (w0 : World) (C : Gc) (P : ByteArray → Pn) (is : ByteArray → Bool) (Gd : ByteArray → Prop) (hG : GH w0 C P is Gd) (g b : Nat) (s : Se) (T : Nat → Prop) (x : ByteArray) (w : World) (h : GI w0 C g b s T w) (hx : Gd x) (hnx : x ∉ s.met) (hw : s.way.length ≤ 999) (hme : s.met.length ≤ 1000) :
    Calls Tryz.prog 87 #[.pointer (some ⟨g, 0, none⟩), .string x] w fun e w' => e = .returned (.tuple #[]) ∧ GIP w0 C g b ⟨(x, (P x).needs) :: s.way, s.met ++ [x], s.done⟩ T w w' := by
  have hxs := hG.size x hx
  obtain ⟨w1, r1, hm1, hk1, hz1⟩ := h.met.add (by omega) (s := x) (by omega)
  have hi1 := h.meet hnx hm1 hk1 hz1
  have hbw := hi1.below
  have HPL := hide (fun (W : World) (hb : Below w1.heap.size w1 W) => hG.plan W x hx (below_up hbw hb hbw.size))
  have hc5 : w.cell? ⟨g, 5, none⟩ = some (.map (some b)) := by
    obtain ⟨vw, vd, wl, h1, _⟩ := h.body
    exact cellOf h1 (j := 5) rfl
  obtain ⟨A4, c4, A6, c6, wl, h1, h2, h3, h4, h5, h6, h7, h8, h9, h10⟩ := hi1.opn
  have hwl : wl.length ≤ 999 := by rw [← way_len h6]; exact hw
  obtain ⟨n, hn⟩ : ∃ n, wl.length = n := ⟨_, rfl⟩
  rw [hn] at h1 hwl
  have hc0 := cellOf h1 (j := 0) (v := C.v0) rfl
  have hc1 := cellOf h1 (j := 1) (v := C.v1) rfl
  have hc2 := cellOf h1 (j := 2) (v := .pointer (some ⟨C.gf, 0, none⟩)) rfl
  have hc3 := cellOf h1 (j := 3) (v := .string C.cwd) rfl
  have hc4 := cellOf h1 (j := 4) (v := .slice A4 n c4) rfl
  have hgl := (hi1.tw g hi1.tg).2
  obtain ⟨q, hq⟩ : ∃ q, P x = q := ⟨_, rfl⟩
  rw [hq] at HPL ⊢
  obtain ⟨stem, hst⟩ : ∃ s, bs q.stem = s := ⟨_, rfl⟩
  obtain ⟨ru, hru⟩ : ∃ s, q.rule = s := ⟨_, rfl⟩
  obtain ⟨N, hN⟩ : ∃ s, q.needs = s := ⟨_, rfl⟩
  unfold PlanPost at HPL
  rw [hst, hru, hN] at HPL
  rw [hN]
  have HFIN := hide (fun (w2 : World) (hb : Below w1.heap.size w1 w2) (A5 : Option Addr) (c5 : Nat) (hs : SR w2 A5 N) (hw : ∀ a, A5 = some a → N ≠ [] → w1.heap.size ≤ a.block) (hcap : N.length ≤ c5) => hi1.push_run hb hc4 (by omega) x A5 c5 N hs hw hcap)
  have HKS := hide (fun (w' : World) (h : GIP w0 C g b ⟨(x, N) :: s.way, s.met ++ [x], s.done⟩ T w1 w') => show GIP w0 C g b ⟨(x, N) :: s.way, s.met ++ [x], s.done⟩ T w w' from by
    obtain ⟨T', f, k, gr⟩ := h
    exact ⟨T', f, (hk1.mono fun k e => e ▸ hi1.tb).trans (k.mono fun q hq => .inl hq), fun q hq => (gr q hq).imp_right (by rw [hz1]; exact id)⟩)
  clear hn hq hst hru hN h2 h3 h4 h5 h6 h7 h8 h9 h10 h h1 hx hG hbw hm1 hk1 hz1 hi1 hnx hme hw
  have hbd : Below w1.heap.size w1 w1.drew := (Below.refl _ _).drew
  go_enter Tryz.func87, Tryz.ntmps87
  go_wp2_with fail
  refine wp_region_held_drew (S := (fun w' => w'.cell? ⟨g, 0, none⟩ = some C.v0 ∧ w'.cell? ⟨g, 1, none⟩ = some C.v1 ∧ w'.cell? ⟨g, 2, none⟩ = some (.pointer (some ⟨C.gf, 0, none⟩)) ∧ w'.cell? ⟨g, 3, none⟩ = some (.string C.cwd))) (by kernel_rfl) ⟨hc0, hc1, hc2, hc3⟩ (fun hHeld => ?_)
  refine wpAnyH_tk (i := 0) (oi := _) (v := ?v0) rfl rfl (by kernel_rfl) (by kernel_rfl) (by kernel_rfl) (fun _ _ _ h => h) (Or.inl ⟨by kernel_rfl, ?y0⟩) (by assumption) ?r0
  case y0 =>
    intro w hSw
    (try dsimp only at hSw)
    go_simp
    try with_reducible rfl
  try simp only [List.setIfInBounds_toArray, List.set_cons_zero, List.set_cons_succ]
  refine wpAnyH_tk (i := 1) (oi := _) (v := ?v1) rfl rfl (by kernel_rfl) (by kernel_rfl) (by kernel_rfl) (fun _ _ _ h => h) (Or.inl ⟨by kernel_rfl, ?y1⟩) (by assumption) ?r1
  case y1 =>
    intro w hSw
    (try dsimp only at hSw)
    go_simp
    try with_reducible rfl
  try simp only [List.setIfInBounds_toArray, List.set_cons_zero, List.set_cons_succ]
  refine wpAnyH_tk (i := 2) (oi := _) (v := ?v2) rfl rfl (by kernel_rfl) (by kernel_rfl) (by kernel_rfl) (fun _ _ _ h => h) (Or.inl ⟨by kernel_rfl, ?y2⟩) (by assumption) ?r2
  case y2 =>
    intro w hSw
    (try dsimp only at hSw)
    go_simp
    try with_reducible rfl
  try simp only [List.setIfInBounds_toArray, List.set_cons_zero, List.set_cons_succ]
  refine wpAnyH_tk (i := 3) (oi := _) (v := ?v3) rfl rfl (by kernel_rfl) (by kernel_rfl) (by kernel_rfl) (fun _ _ _ h => h) (Or.inl ⟨by kernel_rfl, ?y3⟩) (by assumption) ?r3
  case y3 =>
    intro w hSw
    (try dsimp only at hSw)
    go_simp
    try with_reducible rfl
  try simp only [List.setIfInBounds_toArray, List.set_cons_zero, List.set_cons_succ]
  refine wpAnyH_tk (i := 5) (oi := _) (v := ?v5) rfl rfl (by kernel_rfl) (by kernel_rfl) (by kernel_rfl) (fun _ _ _ h => h) (Or.inl ⟨by kernel_rfl, ?y5⟩) (by assumption) ?r5
  case y5 =>
    intro w hSw
    (try dsimp only at hSw)
    go_simp
    try with_reducible rfl
  try simp only [List.setIfInBounds_toArray, List.set_cons_zero, List.set_cons_succ]
  refine wpAnyH_tk (i := 6) (oi := _) (v := ?v6) rfl rfl (by kernel_rfl) (by kernel_rfl) (by kernel_rfl) (fun _ _ _ h => h) (Or.inl ⟨by kernel_rfl, ?y6⟩) (by assumption) ?r6
  case y6 =>
    intro w hSw
    (try dsimp only at hSw)
    go_simp
    try with_reducible rfl
  try simp only [List.setIfInBounds_toArray, List.set_cons_zero, List.set_cons_succ]
  refine wpAnyH_tk (i := 7) (oi := _) (v := ?v7) rfl rfl (by kernel_rfl) (by kernel_rfl) (by kernel_rfl) (fun _ _ _ h => h) (Or.inl ⟨by kernel_rfl, ?y7⟩) (by assumption) ?r7
  case y7 =>
    intro w hSw
    (try dsimp only at hSw)
    go_simp
    try with_reducible rfl
  try simp only [List.setIfInBounds_toArray, List.set_cons_zero, List.set_cons_succ]
  refine wpAnyH_tk (i := 8) (oi := _) (v := ?v8) rfl rfl (by kernel_rfl) (by kernel_rfl) (by kernel_rfl) (fun _ _ _ h => h) (Or.inl ⟨by kernel_rfl, ?y8⟩) (by assumption) ?r8
  case y8 =>
    intro w hSw
    (try dsimp only at hSw)
    go_simp
    try with_reducible rfl
  try simp only [List.setIfInBounds_toArray, List.set_cons_zero, List.set_cons_succ]
  refine wpAnyH_tk (i := 9) (oi := _) (v := ?v9) rfl rfl (by kernel_rfl) (by kernel_rfl) (by kernel_rfl) (fun _ _ _ h => h) (Or.inl ⟨by kernel_rfl, ?y9⟩) (by assumption) ?r9
  case y9 =>
    intro w hSw
    (try dsimp only at hSw)
    go_simp
    try with_reducible rfl
  try simp only [List.setIfInBounds_toArray, List.set_cons_zero, List.set_cons_succ]
  refine wpAnyH_tk (i := 10) (oi := _) (v := ?v10) rfl rfl (by kernel_rfl) (by kernel_rfl) (by kernel_rfl) (fun _ _ _ h => h) (Or.inl ⟨by kernel_rfl, ?y10⟩) (by assumption) ?r10
  case y10 =>
    intro w hSw
    (try dsimp only at hSw)
    go_simp
    try with_reducible rfl
  try simp only [List.setIfInBounds_toArray, List.set_cons_zero, List.set_cons_succ]
  refine wpAnyH_tk (i := 11) (oi := _) (v := ?v11) rfl rfl (by kernel_rfl) (by kernel_rfl) (by kernel_rfl) (fun _ _ _ h => h) (Or.inl ⟨by kernel_rfl, ?y11⟩) (by assumption) ?r11
  case y11 =>
    intro w hSw
    (try dsimp only at hSw)
    go_simp
    try with_reducible rfl
  try simp only [List.setIfInBounds_toArray, List.set_cons_zero, List.set_cons_succ]
  refine wpAnyH_tk (i := 12) (oi := _) (v := ?v12) rfl rfl (by kernel_rfl) (by kernel_rfl) (by kernel_rfl) (fun _ _ _ h => h) (Or.inl ⟨by kernel_rfl, ?y12⟩) (by assumption) ?r12
  case y12 =>
    intro w hSw
    (try dsimp only at hSw)
    go_simp
    try with_reducible rfl
  try simp only [List.setIfInBounds_toArray, List.set_cons_zero, List.set_cons_succ]
  refine wpAnyH_tk (i := 13) (oi := _) (v := ?v13) rfl rfl (by kernel_rfl) (by kernel_rfl) (by kernel_rfl) (fun _ _ _ h => h) (Or.inl ⟨by kernel_rfl, ?y13⟩) (by assumption) ?r13
  case y13 =>
    intro w hSw
    (try dsimp only at hSw)
    go_simp
    try with_reducible rfl
  try simp only [List.setIfInBounds_toArray, List.set_cons_zero, List.set_cons_succ]
  refine wpAnyH_tk (i := 14) (oi := _) (v := ?v14) rfl rfl (by kernel_rfl) (by kernel_rfl) (by kernel_rfl) (fun _ _ _ h => h) (Or.inl ⟨by kernel_rfl, ?y14⟩) (by assumption) ?r14
  case y14 =>
    intro w hSw
    (try dsimp only at hSw)
    go_simp
    try with_reducible rfl
  try simp only [List.setIfInBounds_toArray, List.set_cons_zero, List.set_cons_succ]
  refine wpAnyH_tk (i := 15) (oi := _) (v := ?v15) rfl rfl (by kernel_rfl) (by kernel_rfl) (by kernel_rfl) (fun _ _ _ h => h) (Or.inl ⟨by kernel_rfl, ?y15⟩) (by assumption) ?r15
  case y15 =>
    intro w hSw
    (try dsimp only at hSw)
    go_simp
    try with_reducible rfl
  try simp only [List.setIfInBounds_toArray, List.set_cons_zero, List.set_cons_succ]
  refine wpAnyH_tk (i := 16) (oi := _) (v := ?v16) rfl rfl (by kernel_rfl) (by kernel_rfl) (by kernel_rfl) (fun _ _ _ h => h) (Or.inl ⟨by kernel_rfl, ?y16⟩) (by assumption) ?r16
  case y16 =>
    intro w hSw
    (try dsimp only at hSw)
    go_simp
    try with_reducible rfl
  try simp only [List.setIfInBounds_toArray, List.set_cons_zero, List.set_cons_succ]
  refine wpAnyH_tk (i := 17) (oi := _) (v := ?v17) rfl rfl (by kernel_rfl) (by kernel_rfl) (by kernel_rfl) (fun _ _ _ h => h) (Or.inl ⟨by kernel_rfl, ?y17⟩) (by assumption) ?r17
  case y17 =>
    intro w hSw
    (try dsimp only at hSw)
    go_simp
    try with_reducible rfl
  try simp only [List.setIfInBounds_toArray, List.set_cons_zero, List.set_cons_succ]
  refine wpAnyH_tk (i := 18) (oi := _) (v := ?v18) rfl rfl (by kernel_rfl) (by kernel_rfl) (by kernel_rfl) (fun _ _ _ h => h) (Or.inl ⟨by kernel_rfl, ?y18⟩) (by assumption) ?r18
  case y18 =>
    intro w hSw
    (try dsimp only at hSw)
    go_simp
    try with_reducible rfl
  try simp only [List.setIfInBounds_toArray, List.set_cons_zero, List.set_cons_succ]
  refine wpAnyH_ready (rs := [4, 19]) (by kernel_rfl) (by simp) ?_
  refine AllReadyH.cons (o := _) rfl (fun K hK => ?_) (AllReadyH.cons (o := _) rfl (fun K hK => ?_) AllReadyH.nil)
  · rw [if_pos (by kernel_rfl)]
    go_simp
    refine hK.out _ _ ⟨hc0, hc1, hc2, hc3⟩ (fun _ => ?_)
    clear hK K
    try simp only [Act.put, List.setIfInBounds_toArray, List.set_cons_zero, List.set_cons_succ]
    refine wpAnyH_ready (rs := [19]) (by kernel_rfl) (by simp) ?_
    refine AllReadyH.cons (o := _) rfl (fun K hK => ?_) AllReadyH.nil
    rw [if_pos (by kernel_rfl)]
    go_simp
    refine (HPL.out _ hbd).mono ?_
    rintro e w2 ⟨vn, vr, rfl, ho1, _, hb1⟩
    obtain ⟨A5, c5, rfl, l5, s5, z5⟩ := ho1.slice
    have hbx := below_up hbd hb1 hbd.size
    have y0 := (hbx.cell (p := ⟨g, 0, none⟩) hgl).trans hc0
    have y1 := (hbx.cell (p := ⟨g, 1, none⟩) hgl).trans hc1
    have y2 := (hbx.cell (p := ⟨g, 2, none⟩) hgl).trans hc2
    have y3 := (hbx.cell (p := ⟨g, 3, none⟩) hgl).trans hc3
    have y4 := (hbx.cell (p := ⟨g, 4, none⟩) hgl).trans hc4
    refine hK.out _ _ ⟨y0, y1, y2, y3⟩ (fun _ => ?_)
    clear hK K
    try simp only [Act.put, List.setIfInBounds_toArray, List.set_cons_zero, List.set_cons_succ]
    obtain ⟨A9, c9, w4, hrun, hcs, ⟨hx4, hf4⟩, hcs2, hfin⟩ := HFIN.out w2 hbx A5 c5 s5 (fun a e _ => (World.ownsRow.lt ho1 a.block (z5 a e)).1) l5
    have hba := (Below.refl w2.heap.size w2).alloc (Nat.le_refl _) (.cells #[.string x, .slice A5 N.length c5] 125)
    have hgl2 : g < w2.heap.size := Nat.lt_of_lt_of_le hgl hbx.size
    have u0 := (hba.cell (p := ⟨g, 0, none⟩) hgl2).trans y0
    have u1 := (hba.cell (p := ⟨g, 1, none⟩) hgl2).trans y1
    have u2 := (hba.cell (p := ⟨g, 2, none⟩) hgl2).trans y2
    have u3 := (hba.cell (p := ⟨g, 3, none⟩) hgl2).trans y3
    refine wpAnyH_tk (i := 20) (oi := _) (v := ?vA20) rfl rfl (by kernel_rfl) (by kernel_rfl) (by kernel_rfl) (fun _ _ _ h => h) (Or.inl ⟨by kernel_rfl, ?yA20⟩) (by assumption) ?rA20
    case yA20 =>
      intro w hSw
      (try dsimp only at hSw)
      go_simp
      try with_reducible rfl
    try simp only [List.setIfInBounds_toArray, List.set_cons_zero, List.set_cons_succ]
    refine wpAnyH_tk (i := 21) (oi := _) (v := ?vA21) rfl rfl (by kernel_rfl) (by kernel_rfl) (by kernel_rfl) (fun _ _ _ h => h) (Or.inl ⟨by kernel_rfl, ?yA21⟩) (by assumption) ?rA21
    case yA21 =>
      intro w hSw
      (try dsimp only at hSw)
      go_simp
      try with_reducible rfl
    try simp only [List.setIfInBounds_toArray, List.set_cons_zero, List.set_cons_succ]
    refine wpAnyH_ready (rs := [22]) (by kernel_rfl) (by simp) ?_
    refine AllReadyH.cons (o := _) rfl (fun K hK => ?_) AllReadyH.nil
    rw [if_pos (by kernel_rfl)]
    go_simp
    refine hK.out _ _ ⟨u0, u1, u2, u3⟩ (fun _ => ?_)
    clear hK K
    try simp only [Act.put, List.setIfInBounds_toArray, List.set_cons_zero, List.set_cons_succ]
    refine wpAnyH_ready (rs := [23]) (by kernel_rfl) (by simp) ?_
    refine AllReadyH.cons (o := _) rfl (fun K hK => ?_) AllReadyH.nil
    refine step_app_run rfl _ _ rfl rfl rfl rfl hrun ?_
    refine hK.out _ _ hcs (fun _ => ?_)
    clear hK K
    try simp only [Act.put, List.setIfInBounds_toArray, List.set_cons_zero, List.set_cons_succ]
    refine wpAnyH_tk (i := 24) (oi := _) (v := ?vA24) rfl rfl (by kernel_rfl) (by kernel_rfl) (by kernel_rfl) (fun _ _ _ h => h) (Or.inl ⟨by kernel_rfl, ?yA24⟩) (by assumption) ?rA24
    case yA24 =>
      intro w hSw
      (try dsimp only at hSw)
      go_simp
      try with_reducible rfl
    try simp only [List.setIfInBounds_toArray, List.set_cons_zero, List.set_cons_succ]
    refine wpAnyH_tk (i := 25) (oi := _) (v := ?vA25) rfl rfl (by kernel_rfl) (by kernel_rfl) (by kernel_rfl) (fun _ _ _ h => h) (Or.inl ⟨by kernel_rfl, ?yA25⟩) (by assumption) ?rA25
    case yA25 =>
      intro w hSw
      (try dsimp only at hSw)
      go_simp
      try with_reducible rfl
    try simp only [List.setIfInBounds_toArray, List.set_cons_zero, List.set_cons_succ]
    refine wpAnyH_ready (rs := [26]) (by kernel_rfl) (by simp) ?_
    refine AllReadyH.cons (o := _) rfl (fun K hK => ?_) AllReadyH.nil
    rw [if_pos (by kernel_rfl)]
    go_simp
    refine hK.out _ _ hcs2 (fun _ => ?_)
    clear hK K
    try simp only [Act.put, List.setIfInBounds_toArray, List.set_cons_zero, List.set_cons_succ]
    refine wpAnyH_done (by kernel_rfl) ?_ _
    have HFIN2 := hide (HKS.out _ hfin)
    clear hfin hcs hcs2
    go_wp2
    go_end0
    exact ⟨rfl, HFIN2.out⟩
  · rw [if_pos (by kernel_rfl)]
    go_simp
    refine (HPL.out _ hbd).mono ?_
    rintro e w2 ⟨vn, vr, rfl, ho1, _, hb1⟩
    obtain ⟨A5, c5, rfl, l5, s5, z5⟩ := ho1.slice
    have hbx := below_up hbd hb1 hbd.size
    have y0 := (hbx.cell (p := ⟨g, 0, none⟩) hgl).trans hc0
    have y1 := (hbx.cell (p := ⟨g, 1, none⟩) hgl).trans hc1
    have y2 := (hbx.cell (p := ⟨g, 2, none⟩) hgl).trans hc2
    have y3 := (hbx.cell (p := ⟨g, 3, none⟩) hgl).trans hc3
    have y4 := (hbx.cell (p := ⟨g, 4, none⟩) hgl).trans hc4
    refine hK.out _ _ ⟨y0, y1, y2, y3⟩ (fun _ => ?_)
    clear hK K
    try simp only [Act.put, List.setIfInBounds_toArray, List.set_cons_zero, List.set_cons_succ]
    refine wpAnyH_tk (i := 20) (oi := _) (v := ?vB20) rfl rfl (by kernel_rfl) (by kernel_rfl) (by kernel_rfl) (fun _ _ _ h => h) (Or.inl ⟨by kernel_rfl, ?yB20⟩) (by assumption) ?rB20
    case yB20 =>
      intro w hSw
      (try dsimp only at hSw)
      go_simp
      try with_reducible rfl
    try simp only [List.setIfInBounds_toArray, List.set_cons_zero, List.set_cons_succ]
    refine wpAnyH_tk (i := 21) (oi := _) (v := ?vB21) rfl rfl (by kernel_rfl) (by kernel_rfl) (by kernel_rfl) (fun _ _ _ h => h) (Or.inl ⟨by kernel_rfl, ?yB21⟩) (by assumption) ?rB21
    case yB21 =>
      intro w hSw
      (try dsimp only at hSw)
      go_simp
      try with_reducible rfl
    try simp only [List.setIfInBounds_toArray, List.set_cons_zero, List.set_cons_succ]
    obtain ⟨A9, c9, w4, hrun, hcs, ⟨hx4, hf4⟩, hcs2, hfin⟩ := HFIN.out w2 hbx A5 c5 s5 (fun a e _ => (World.ownsRow.lt ho1 a.block (z5 a e)).1) l5
    have hba := (Below.refl w2.heap.size w2).alloc (Nat.le_refl _) (.cells #[.string x, .slice A5 N.length c5] 125)
    have hgl2 : g < w2.heap.size := Nat.lt_of_lt_of_le hgl hbx.size
    have u0 := (hba.cell (p := ⟨g, 0, none⟩) hgl2).trans y0
    have u1 := (hba.cell (p := ⟨g, 1, none⟩) hgl2).trans y1
    have u2 := (hba.cell (p := ⟨g, 2, none⟩) hgl2).trans y2
    have u3 := (hba.cell (p := ⟨g, 3, none⟩) hgl2).trans y3
    refine wpAnyH_ready (rs := [4, 22]) (by kernel_rfl) (by simp) ?_
    refine AllReadyH.cons (o := _) rfl (fun K hK => ?_) (AllReadyH.cons (o := _) rfl (fun K hK => ?_) AllReadyH.nil)
    · rw [if_pos (by kernel_rfl)]
      go_simp
      refine hK.out _ _ ⟨y0, y1, y2, y3⟩ (fun _ => ?_)
      clear hK K
      try simp only [Act.put, List.setIfInBounds_toArray, List.set_cons_zero, List.set_cons_succ]
      refine wpAnyH_ready (rs := [22]) (by kernel_rfl) (by simp) ?_
      refine AllReadyH.cons (o := _) rfl (fun K hK => ?_) AllReadyH.nil
      rw [if_pos (by kernel_rfl)]
      go_simp
      refine hK.out _ _ ⟨u0, u1, u2, u3⟩ (fun _ => ?_)
      clear hK K
      try simp only [Act.put, List.setIfInBounds_toArray, List.set_cons_zero, List.set_cons_succ]
      refine wpAnyH_ready (rs := [23]) (by kernel_rfl) (by simp) ?_
      refine AllReadyH.cons (o := _) rfl (fun K hK => ?_) AllReadyH.nil
      refine step_app_run rfl _ _ rfl rfl rfl rfl hrun ?_
      refine hK.out _ _ hcs (fun _ => ?_)
      clear hK K
      try simp only [Act.put, List.setIfInBounds_toArray, List.set_cons_zero, List.set_cons_succ]
      refine wpAnyH_tk (i := 24) (oi := _) (v := ?vC24) rfl rfl (by kernel_rfl) (by kernel_rfl) (by kernel_rfl) (fun _ _ _ h => h) (Or.inl ⟨by kernel_rfl, ?yC24⟩) (by assumption) ?rC24
      case yC24 =>
        intro w hSw
        (try dsimp only at hSw)
        go_simp
        try with_reducible rfl
      try simp only [List.setIfInBounds_toArray, List.set_cons_zero, List.set_cons_succ]
      refine wpAnyH_tk (i := 25) (oi := _) (v := ?vC25) rfl rfl (by kernel_rfl) (by kernel_rfl) (by kernel_rfl) (fun _ _ _ h => h) (Or.inl ⟨by kernel_rfl, ?yC25⟩) (by assumption) ?rC25
      case yC25 =>
        intro w hSw
        (try dsimp only at hSw)
        go_simp
        try with_reducible rfl
      try simp only [List.setIfInBounds_toArray, List.set_cons_zero, List.set_cons_succ]
      refine wpAnyH_ready (rs := [26]) (by kernel_rfl) (by simp) ?_
      refine AllReadyH.cons (o := _) rfl (fun K hK => ?_) AllReadyH.nil
      rw [if_pos (by kernel_rfl)]
      go_simp
      refine hK.out _ _ hcs2 (fun _ => ?_)
      clear hK K
      try simp only [Act.put, List.setIfInBounds_toArray, List.set_cons_zero, List.set_cons_succ]
      refine wpAnyH_done (by kernel_rfl) ?_ _
      have HFIN2 := hide (HKS.out _ hfin)
      clear hfin hcs hcs2
      go_wp2
      go_end0
      exact ⟨rfl, HFIN2.out⟩
    · rw [if_pos (by kernel_rfl)]
      go_simp
      refine hK.out _ _ ⟨u0, u1, u2, u3⟩ (fun _ => ?_)
      clear hK K
      have u4 := (hba.cell (p := ⟨g, 4, none⟩) hgl2).trans y4
      try simp only [Act.put, List.setIfInBounds_toArray, List.set_cons_zero, List.set_cons_succ]
      refine wpAnyH_ready (rs := [4]) (by kernel_rfl) (by simp) ?_
      refine AllReadyH.cons (o := _) rfl (fun K hK => ?_) AllReadyH.nil
      rw [if_pos (by kernel_rfl)]
      go_simp
      refine hK.out _ _ ⟨u0, u1, u2, u3⟩ (fun _ => ?_)
      clear hK K
      try simp only [Act.put, List.setIfInBounds_toArray, List.set_cons_zero, List.set_cons_succ]
      refine wpAnyH_ready (rs := [23]) (by kernel_rfl) (by simp) ?_
      refine AllReadyH.cons (o := _) rfl (fun K hK => ?_) AllReadyH.nil
      refine step_app_run rfl _ _ rfl rfl rfl rfl hrun ?_
      refine hK.out _ _ hcs (fun _ => ?_)
      clear hK K
      try simp only [Act.put, List.setIfInBounds_toArray, List.set_cons_zero, List.set_cons_succ]
      refine wpAnyH_tk (i := 24) (oi := _) (v := ?vD24) rfl rfl (by kernel_rfl) (by kernel_rfl) (by kernel_rfl) (fun _ _ _ h => h) (Or.inl ⟨by kernel_rfl, ?yD24⟩) (by assumption) ?rD24
      case yD24 =>
        intro w hSw
        (try dsimp only at hSw)
        go_simp
        try with_reducible rfl
      try simp only [List.setIfInBounds_toArray, List.set_cons_zero, List.set_cons_succ]
      refine wpAnyH_tk (i := 25) (oi := _) (v := ?vD25) rfl rfl (by kernel_rfl) (by kernel_rfl) (by kernel_rfl) (fun _ _ _ h => h) (Or.inl ⟨by kernel_rfl, ?yD25⟩) (by assumption) ?rD25
      case yD25 =>
        intro w hSw
        (try dsimp only at hSw)
        go_simp
        try with_reducible rfl
      try simp only [List.setIfInBounds_toArray, List.set_cons_zero, List.set_cons_succ]
      refine wpAnyH_ready (rs := [26]) (by kernel_rfl) (by simp) ?_
      refine AllReadyH.cons (o := _) rfl (fun K hK => ?_) AllReadyH.nil
      rw [if_pos (by kernel_rfl)]
      go_simp
      refine hK.out _ _ hcs2 (fun _ => ?_)
      clear hK K
      try simp only [Act.put, List.setIfInBounds_toArray, List.set_cons_zero, List.set_cons_succ]
      refine wpAnyH_done (by kernel_rfl) ?_ _
      have HFIN2 := hide (HKS.out _ hfin)
      clear hfin hcs hcs2
      go_wp2
      go_end0
      exact ⟨rfl, HFIN2.out⟩
end Go.Proofs.YtmblmenafplccaaGreatDoor
