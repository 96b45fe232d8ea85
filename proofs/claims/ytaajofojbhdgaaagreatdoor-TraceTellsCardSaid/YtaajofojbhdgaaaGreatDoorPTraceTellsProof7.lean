/- Texts of mine, joined (Obj, RefPlanD, RefPlanE, TraceWalkC, GraphSize, TraceLaw): walks and plain facts that the claim uses, each as its own comment says. -/
import Derived.Test.YtaajofojbhdgaaaGreatDoorPTraceTellsProof6
import Derived.Deep.CutRange
/- An object in memory: a block of cells, some of which hold rows of the object's own. No program in sight. -/
namespace Go.Proofs.YtaajofojbhdgaaaGreatDoor
open Go.RowKit
set_option linter.unusedSimpArgs false
set_option linter.unusedVariables false

/-- a cell: a plain value, or a row of the object's own -/
inductive Cl where
  | v (x : Value)
  | r (t : TypeId) (n len : Nat) (vals : List Value)
def ClOk (w : World) (base : Nat) : Cl → Value → Prop
  | .v x, u => u = x
  | .r t n len vals, u => w.ownsRow base t n u len vals
def Cl.row : Cl → Bool
  | .v _ => false
  | .r .. => true
def Cl.s (L : List ByteArray) : Cl := .r 9 1 L.length (strVals L)
theorem ownsRow_of {w w' : World} {base : Nat} {t : TypeId} {n len : Nat} {v : Value} {vals : List Value} (h : w.ownsRow base t n v len vals) (hb : ∀ k, v.ownBlock = some k → w'.heap[k]? = w.heap[k]?) : w'.ownsRow base t n v len vals := by
  obtain ⟨h1, h2⟩ := h
  refine ⟨h1, ?_⟩
  rcases h2 with h | ⟨g, cap, cur, rfl, hg, hh, r⟩
  · exact .inl h
  · exact .inr ⟨g, cap, cur, rfl, hg, (hb g rfl).trans hh, r⟩
theorem ClOk.of {w w' : World} {base : Nat} {c : Cl} {u : Value} (h : ClOk w base c u) (hb : c.row = true → ∀ k, u.ownBlock = some k → w'.heap[k]? = w.heap[k]?) : ClOk w' base c u := by
  cases c with
  | v x => exact h
  | r t n len vals => exact ownsRow_of h (hb rfl)
theorem ClOk.lt {w : World} {base : Nat} {c : Cl} {u : Value} (h : ClOk w base c u) (hr : c.row = true) {k : Nat} (hk : u.ownBlock = some k) : base ≤ k ∧ k < w.heap.size := by
  cases c with
  | v x => cases hr
  | r t n len vals => exact World.ownsRow.lt h k hk
/-- an object of such cells, its rows in blocks of T -/
structure OI (w0 : World) (ty : TypeId) (g : Nat) (cs : List Cl) (T : Nat → Prop) (w : World) : Prop where
  below : Below w0.heap.size w0 w
  tg : T g
  tw : ∀ k, T k → w0.heap.size ≤ k ∧ k < w.heap.size
  body : ∃ vs : List Value, w.heap[g]? = some (.cells vs.toArray ty) ∧ vs.length = cs.length ∧
    (∀ (j : Nat) (c : Cl) (u : Value), cs[j]? = some c → vs[j]? = some u → ClOk w w0.heap.size c u ∧ (c.row = true → ∀ k, u.ownBlock = some k → T k ∧ k ≠ g)) ∧
    ∀ (i j : Nat) (c d : Cl) (u v : Value), i ≠ j → cs[i]? = some c → cs[j]? = some d → c.row = true → d.row = true → vs[i]? = some u → vs[j]? = some v → ∀ k, u.ownBlock = some k → v.ownBlock ≠ some k
/-- what a call on it leaves -/
def OIP (w0 : World) (ty : TypeId) (g : Nat) (cs : List Cl) (T : Nat → Prop) (w w' : World) : Prop := ∃ T', OI w0 ty g cs T' w' ∧ Kp w w' T ∧ ∀ k, T' k → T k ∨ w.heap.size ≤ k
theorem objSet {w : World} {g j : Nat} {vs : List Value} {t : TypeId} (h : w.heap[g]? = some (.cells vs.toArray t)) (v : Value) : (w.setCell ⟨g, j, none⟩ v).heap[g]? = some (.cells (vs.set j v).toArray t) := by
  unfold World.setCell
  simp [Array.getElem?_modify, h]
theorem objKp {w : World} {g j : Nat} {v : Value} : Kp w (w.setCell ⟨g, j, none⟩ v) (fun k => k = g) :=
  ⟨rfl, rfl, rfl, by simp, fun k _ hne => Below.heap_setCell _ _ _ _ (by simpa using hne)⟩
theorem OI.step {w0 w w' : World} {ty : TypeId} {g : Nat} {cs : List Cl} {T : Nat → Prop} (h : OI w0 ty g cs T w) (hb : Below w.heap.size w w') : OI w0 ty g cs T w' := by
  obtain ⟨vs, h1, h2, h3, h4⟩ := h.body
  refine ⟨h.below.trans (hb.mono h.below.size), h.tg, fun k hk => ⟨(h.tw k hk).1, Nat.lt_of_lt_of_le (h.tw k hk).2 hb.size⟩, vs, (hb.block g (h.tw g h.tg).2).trans h1, h2, fun j c u hc hu => ?_, h4⟩
  obtain ⟨h5, h6⟩ := h3 j c u hc hu
  exact ⟨h5.of fun hr k hk => hb.block k (h.tw k (h6 hr k hk).1).2, h6⟩
theorem OI.toP {w0 w w' : World} {ty : TypeId} {g : Nat} {cs : List Cl} {T : Nat → Prop} (h : OI w0 ty g cs T w) (hb : Below w.heap.size w w') : OIP w0 ty g cs T w w' := ⟨T, h.step hb, Kp.of_below hb T, fun _ hk => .inl hk⟩
theorem OIP.trans {w0 w w' w'' : World} {ty : TypeId} {g : Nat} {cs cs' : List Cl} {T : Nat → Prop} (h : OIP w0 ty g cs T w w') (h2 : ∀ T', OI w0 ty g cs T' w' → OIP w0 ty g cs' T' w' w'') : OIP w0 ty g cs' T w w'' := by
  obtain ⟨T', f, k, gr⟩ := h
  obtain ⟨T2, f2, k2, gr2⟩ := h2 T' f
  refine ⟨T2, f2, k.trans (k2.mono gr), fun q hq => ?_⟩
  rcases gr2 q hq with h | h
  · exact gr q h
  · exact .inr (Nat.le_trans k.size h)
theorem OIP.below {w0 w w' : World} {ty : TypeId} {g : Nat} {cs : List Cl} {T : Nat → Prop} (h : OIP w0 ty g cs T w w') : Below w0.heap.size w0 w' := by
  obtain ⟨T', f, _, _⟩ := h; exact f.below
theorem OIP.step {w0 w w' w'' : World} {ty : TypeId} {g : Nat} {cs : List Cl} {T : Nat → Prop} (h : OIP w0 ty g cs T w w') (hb : Below w'.heap.size w' w'') : OIP w0 ty g cs T w w'' := h.trans fun _ f => f.toP hb
theorem OIP.after {w0 w w1 w' : World} {ty : TypeId} {g : Nat} {cs : List Cl} {T : Nat → Prop} (hb : Below w.heap.size w w1) (h : OIP w0 ty g cs T w1 w') : OIP w0 ty g cs T w w' := by
  obtain ⟨T', f, k, gr⟩ := h
  exact ⟨T', f, (Kp.of_below hb T).trans (k.mono fun q hq => .inl hq), fun q hq => (gr q hq).imp_right (Nat.le_trans hb.size)⟩
/-- what lies elsewhere stays as it was -/
theorem OIP.cell {w0 w w' : World} {ty : TypeId} {g : Nat} {cs : List Cl} {T : Nat → Prop} (h : OIP w0 ty g cs T w w') {b o : Nat} {v : Value} (hc : w.cell? ⟨b, o, none⟩ = some v) (hT : ¬ T b) : w'.cell? ⟨b, o, none⟩ = some v := by
  obtain ⟨T', _, k, _⟩ := h
  exact k.cell hc hT
theorem OIP.block {w0 w w' : World} {ty : TypeId} {g : Nat} {cs : List Cl} {T : Nat → Prop} (h : OIP w0 ty g cs T w w') {b : Nat} (hb : b < w.heap.size) (hT : ¬ T b) : w'.heap[b]? = w.heap[b]? := by
  obtain ⟨T', _, k, _⟩ := h
  exact k.block b hb hT
theorem OI.free {w0 w : World} {ty : TypeId} {g : Nat} {cs : List Cl} {T : Nat → Prop} (h : OI w0 ty g cs T w) (j : Nat) : w.frozen? ⟨g, j, none⟩ = false := by
  obtain ⟨vs, h1, _⟩ := h.body
  simp [World.frozen?, h1]
theorem OI.lt {w0 w : World} {ty : TypeId} {g : Nat} {cs : List Cl} {T : Nat → Prop} (h : OI w0 ty g cs T w) : g < w.heap.size := (h.tw g h.tg).2
/-- an object that was just made -/
theorem OI.made {w0 w : World} {ty : TypeId} {vs : List Value} (hb : Below w0.heap.size w0 w) : OI w0 ty w.heap.size (vs.map Cl.v) (fun k => k = w.heap.size) (w.alloc (.cells vs.toArray ty)) := by
  refine ⟨hb.alloc hb.size _, rfl, fun k e => by subst e; exact ⟨hb.size, by simp⟩, vs, heapNew _ _, by simp, fun j c u hc hu => ?_, fun i j c d u v hne hc hd rc => ?_⟩
  · rw [List.getElem?_map, hu] at hc
    obtain rfl := Option.some.inj hc
    exact ⟨rfl, fun q => by cases q⟩
  · rw [List.getElem?_map] at hc
    obtain ⟨x, _, rfl⟩ := Option.map_eq_some_iff.1 hc
    cases rc
end Go.Proofs.YtaajofojbhdgaaaGreatDoor
/- Walk of the reference's with. -/
namespace Go.Proofs.YtaajofojbhdgaaaGreatDoor
open Go.RowKit Go.Deep Go.Maps Ln Pth Vf
set_option linter.unusedSimpArgs false
set_option linter.unusedVariables false
attribute [local go_sem] bt_eq

/-- what the reference's Plan tells -/
def RPlanPost (w : World) (q : Pn) (e : Ending) (w' : World) : Prop := ∃ (A : Option Addr) (c : Nat) (rA : Option Addr) (rc : Nat), e = .returned (.agg #[.slice A q.needs.length c, .slice rA q.recipe.length rc, .string (bs q.stem), .bool q.rule]) ∧ SR w' A q.needs ∧ SR w' rA q.recipe ∧ (∀ a, A = some a → q.needs ≠ [] → w.heap.size ≤ a.block) ∧ Below w.heap.size w w'
/-- what with tells: its needs lie where they lay, or are new -/
def WithPost (A0 : Option Addr) (L0 : List ByteArray) (rA : Option Addr) (rc : Nat) (w : World) (q : Pn) (e : Ending) (w' : World) : Prop := ∃ (A : Option Addr) (c : Nat), e = .returned (.agg #[.slice A q.needs.length c, .slice rA q.recipe.length rc, .string (bs q.stem), .bool q.rule]) ∧ SR w' A q.needs ∧ (∀ a, A = some a → q.needs ≠ [] → (A0 = some a ∧ L0 ≠ []) ∨ w.heap.size ≤ a.block) ∧ Below w.heap.size w w'
theorem ret_with {a : Act} {W : World} {gp : Nat} {v0 v1 v2 v3 : Value} (hr : W.heap[gp]? = some (.cells #[v0, v1, v2, v3] 49)) (h8 : a.tmps.getD 8 undef = .pointer (some ⟨gp, 0, none⟩)) :
    (results Tryz.f39 a.tmps).run Tryz.prog W = .ok (.agg #[v0, v1, v2, v3]) W := by
  have c0 : W.cell? ⟨gp, 0, none⟩ = some v0 := cellOf hr (j := 0) rfl
  have c1 : W.cell? ⟨gp, 1, none⟩ = some v1 := cellOf hr (j := 1) rfl
  have c2 : W.cell? ⟨gp, 2, none⟩ = some v2 := cellOf hr (j := 2) rfl
  have c3 : W.cell? ⟨gp, 3, none⟩ = some v3 := cellOf hr (j := 3) rfl
  simp only [results, Tryz.results39]
  simp only [Array.getD_eq_getD_getElem?] at h8
  simp [go_sem, h8, c0, c1, c2, c3]
set_option maxRecDepth 100000 in
set_option maxHeartbeats 4000000 in
theorem rwith_any (p : Pn) (A : Option Addr) (c : Nat) (rA0 : Option Addr) (rc0 : Nat) (nA : Option Addr) (nc : Nat) (ns : List ByteArray) (rA : Option Addr) (rc : Nat) (rL : List ByteArray) (st : T) (w : World) (hA : SR w A p.needs) (hN : SR w nA ns) (hR : SR w rA rL) (hl : p.needs.length + ns.length ≤ 1000000) :
    Calls Tryz.prog 39 #[.agg #[.slice A p.needs.length c, .slice rA0 p.recipe.length rc0, .string (bs p.stem), .bool p.rule], .slice nA ns.length nc, .slice rA rL.length rc, .string (bs st)] w (WithPost A p.needs rA rc w (takesF p ns rL st)) := by
  obtain ⟨L0, R0, st0, ru0⟩ := p
  dsimp only at hA hl ⊢
  have HA := hide hA
  have HNS := hide hN
  have HRS := hide hR
  have HE := hide (show takesF ⟨L0, R0, st0, ru0⟩ ns rL st = ⟨needsF L0 ns, rL, st, true⟩ from rfl)
  obtain ⟨n, hn⟩ : ∃ n, ns.length = n := ⟨_, rfl⟩
  obtain ⟨l0, hl0⟩ : ∃ n, L0.length = n := ⟨_, rfl⟩
  obtain ⟨q0, hq0⟩ : ∃ n, R0.length = n := ⟨_, rfl⟩
  obtain ⟨q, hq⟩ : ∃ n, rL.length = n := ⟨_, rfl⟩
  have HNN := hide hn
  have HL0 := hide hl0
  have HQQ := hide hq
  rw [hn, hl0] at hl
  rw [hn, hl0, hq0, hq]
  have hb1 := (Below.refl w.heap.size w).alloc (Nat.le_refl _) (.cells #[.slice A l0 c, .slice rA0 q0 rc0, .string (bs st0), .bool ru0] 49)
  have hb2 := hb1.alloc (by simp) (.cells #[.slice none 0 0, .slice none 0 0, .string ⟨#[]⟩, .bool false] 49)
  have h1 := heapNew w (.cells #[.slice A l0 c, .slice rA0 q0 rc0, .string (bs st0), .bool ru0] 49)
  have h2 := heapNew (w.alloc (.cells #[.slice A l0 c, .slice rA0 q0 rc0, .string (bs st0), .bool ru0] 49)) (.cells #[.slice none 0 0, .slice none 0 0, .string ⟨#[]⟩, .bool false] 49)
  simp only [World.size_alloc] at h2
  have h1' := (Below.heap_alloc (w.alloc (.cells #[.slice A l0 c, .slice rA0 q0 rc0, .string (bs st0), .bool ru0] 49)) (.cells #[.slice none 0 0, .slice none 0 0, .string ⟨#[]⟩, .bool false] 49) w.heap.size (by simp)).trans h1
  obtain ⟨W, hW⟩ : ∃ W, (w.alloc (.cells #[.slice A l0 c, .slice rA0 q0 rc0, .string (bs st0), .bool ru0] 49)).alloc (.cells #[.slice none 0 0, .slice none 0 0, .string ⟨#[]⟩, .bool false] 49) = W := ⟨_, rfl⟩
  rw [hW] at hb2 h2 h1'
  have HBX := hide hb2
  have HP0 := hide h1'
  have HZ0 := hide h2
  have hni : (n : Int) ≤ 1000000 := by omega
  clear hA hN hR hn hl0 hq0 hq hb1 hb2 h1 h2 h1'
  go_enter Tryz.func39, Tryz.ntmps39
  go_wp2
  (try rw [hW])
  clear hW
  go_loopw [9] (fun v9 wr => ∃ (k : Nat) (A2 : Option Addr) (c2 : Nat), v9 = .int .i64 k ∧ k ≤ n ∧ SR wr A2 (needsF L0 (ns.take k)) ∧ Hid (∀ a, A2 = some a → needsF L0 (ns.take k) ≠ [] → (A = some a ∧ L0 ≠ [] ∧ a.block < w.heap.size) ∨ w.heap.size + 1 < a.block) ∧ wr.heap[w.heap.size]? = some (.cells #[.slice A2 (needsF L0 (ns.take k)).length c2, .slice rA0 q0 rc0, .string (bs st0), .bool ru0] 49) ∧ wr.heap[w.heap.size + 1]? = some (.cells #[.slice none 0 0, .slice none 0 0, .string ⟨#[]⟩, .bool false] 49) ∧ Below w.heap.size w wr) (fun v9 _ => n - (intOf v9).toNat)
  case atStart => exact ⟨0, A, c, rfl, by omega, HA.out.below HBX.out, hide (fun a e h => .inl ⟨e, h, HA.out.lt e h⟩), by rw [show (needsF L0 (ns.take 0)).length = l0 from HL0.out]; exact HP0.out, HZ0.out, HBX.out⟩
  case round =>
    obtain ⟨k, Ax, cx, rfl, hk, hsx, HNE, hgp, hgz, hbx⟩ := hrel
    have HSX := hide hsx
    have HGP := hide hgp
    have HGZ := hide hgz
    have HB := hide hbx
    have hgl := (Array.getElem?_eq_some_iff.1 hgp).1
    have hgl2 := (Array.getElem?_eq_some_iff.1 hgz).1
    have hlen := needsF_len (ns.take k) L0
    rw [List.length_take] at hlen
    have hl0x := HL0.out
    have hnnx := HNN.out
    by_cases hlt : k < n
    · obtain ⟨x, hx⟩ : ∃ x, ns[k]? = some x := ⟨ns[k]'(by omega), List.getElem?_eq_getElem _⟩
      obtain ⟨gs, o, rfl, hg, hc⟩ := HNS.out k x hx
      have hcw := (hbx.cell (p := ⟨gs, o + k, none⟩) hg).trans hc
      have HTK := hide (needsF_take (l := L0) hx)
      obtain ⟨L2, hL2⟩ : ∃ l, needsF L0 (ns.take k) = l := ⟨_, rfl⟩
      rw [hL2] at HTK hlen hgp hsx HNE
      have HON := hide (fun Z (hb : Below wr.heap.size wr Z) => ronce_any Ax cx L2 x Z (hsx.below hb) (by omega))
      have HQ := hide (fun Z (hb : Below wr.heap.size wr Z) => (hb.cell (p := ⟨gs, o + k, none⟩) (World.block_lt_of_cell? _ _ hcw)).trans hcw)
      have hgne : ¬ gs = w.heap.size := by omega
      have hgd : wr.cell? ⟨w.heap.size, 0, none⟩ = some (.slice Ax L2.length cx) := cellOf hgp (j := 0) rfl
      have b1 : (k : Int) < (n : Int) := by omega
      clear hx hc hcw hsx hL2 HSX HGP hl0x hnnx hbx
      go_wp2_with fail
      refine wp_region_held_drew (S := (fun Z => Z.cell? ⟨gs, o + k, none⟩ = some (.string x))) (by kernel_rfl) (HQ.out _ (Below.refl _ _).drew) (fun hHeld => ?_)
      refine wpAnyH_tk (i := 0) (oi := _) (v := ?v0) rfl rfl (by kernel_rfl) (by kernel_rfl) (by kernel_rfl) (fun _ _ _ h => h) (Or.inl ⟨by kernel_rfl, ?y0⟩) (by assumption) ?r0
      case y0 =>
        intro w hSw
        (try dsimp only at hSw)
        go_simp
        try with_reducible rfl
      try simp only [List.setIfInBounds_toArray, List.set_cons_zero, List.set_cons_succ]
      refine wpAnyH_tk (i := 2) (oi := _) (v := ?v2) rfl rfl (by kernel_rfl) (by kernel_rfl) (by kernel_rfl) (fun _ _ _ h => h) (Or.inl ⟨by kernel_rfl, ?y2⟩) (by assumption) ?r2
      case y2 =>
        intro w hSw
        (try dsimp only at hSw)
        go_simp
        try with_reducible rfl
      try simp only [List.setIfInBounds_toArray, List.set_cons_zero, List.set_cons_succ]
      refine wpAnyH_tk (i := 3) (oi := _) (v := ?v3) rfl rfl (by kernel_rfl) (by kernel_rfl) (by kernel_rfl) (fun _ _ _ h => h) (Or.inl ⟨by kernel_rfl, ?y3⟩) (by assumption) ?r3
      case y3 =>
        intro w hSw
        (try dsimp only at hSw)
        go_simp
        try with_reducible rfl
      try simp only [List.setIfInBounds_toArray, List.set_cons_zero, List.set_cons_succ]
      refine wpAnyH_tk (i := 4) (oi := _) (v := ?v4) rfl rfl (by kernel_rfl) (by kernel_rfl) (by kernel_rfl) (fun _ _ _ h => h) (Or.inl ⟨by kernel_rfl, ?y4⟩) (by assumption) ?r4
      case y4 =>
        intro w hSw
        (try dsimp only at hSw)
        go_simp
        try with_reducible rfl
      try simp only [List.setIfInBounds_toArray, List.set_cons_zero, List.set_cons_succ]
      refine wpAnyH_tk (i := 5) (oi := _) (v := ?v5) rfl rfl (by kernel_rfl) (by kernel_rfl) (by kernel_rfl) (fun _ _ _ h => h) (Or.inl ⟨by kernel_rfl, ?y5⟩) (by assumption) ?r5
      case y5 =>
        intro w hSw
        (try dsimp only at hSw)
        go_simp
        try with_reducible rfl
      try simp only [List.setIfInBounds_toArray, List.set_cons_zero, List.set_cons_succ]
      refine wpAnyH_ready (rs := [1]) (by kernel_rfl) (by simp) ?_
      refine AllReadyH.cons (o := _) rfl (fun K hK => ?_) AllReadyH.nil
      rw [if_pos (by kernel_rfl)]
      go_simp
      refine hK.out _ _ (HQ.out _ (Below.refl _ _).drew) (fun _ => ?_)
      clear hK K
      try simp only [Act.put, List.setIfInBounds_toArray, List.set_cons_zero, List.set_cons_succ]
      refine wpAnyH_ready (rs := [6]) (by kernel_rfl) (by simp) ?_
      refine AllReadyH.cons (o := _) rfl (fun K hK => ?_) AllReadyH.nil
      rw [if_pos (by kernel_rfl)]
      go_simp
      refine (HON.out _ (Below.refl _ _).drew).mono ?_
      rintro e w2 ⟨⟨A2, c2, rfl, hs2, hfr⟩, hb2⟩
      have hp2 := (hb2.block w.heap.size hgl).trans hgp
      have hz2 := (hb2.block (w.heap.size + 1) hgl2).trans hgz
      have HP2 := hide hp2
      have HZ2 := hide hz2
      have HS2 := hide hs2
      have HFR := hide hfr
      have HB2 := hide ((Below.refl wr.heap.size wr).drew.trans hb2)
      have HQ3 := hide ((objKp (j := 0) (v := .slice A2 (needF L2 x).length c2)).cell (HQ.out _ HB2.out) hgne)
      have hc2 := cellOf hp2 (j := 0) rfl
      have hf2 := freeOf hp2 0
      clear hb2 hp2 hz2 hs2 hfr
      refine hK.out _ _ (HQ.out _ HB2.out) (fun _ => ?_)
      clear hK K
      try simp only [Act.put, List.setIfInBounds_toArray, List.set_cons_zero, List.set_cons_succ]
      refine wpAnyH_tk (i := 7) (oi := _) (v := ?v7) rfl rfl (by kernel_rfl) (by kernel_rfl) (by kernel_rfl) (fun _ _ _ h => h) (Or.inl ⟨by kernel_rfl, ?y7⟩) (by assumption) ?r7
      case y7 =>
        intro w hSw
        (try dsimp only at hSw)
        go_simp
        try with_reducible rfl
      try simp only [List.setIfInBounds_toArray, List.set_cons_zero, List.set_cons_succ]
      refine wpAnyH_ready (rs := [8]) (by kernel_rfl) (by simp) ?_
      refine AllReadyH.cons (o := _) rfl (fun K hK => ?_) AllReadyH.nil
      rw [if_pos (by kernel_rfl)]
      go_simp
      refine hK.out _ _ HQ3.out (fun _ => ?_)
      clear hK K
      try simp only [Act.put, List.setIfInBounds_toArray, List.set_cons_zero, List.set_cons_succ]
      refine wpAnyH_done (by kernel_rfl) ?_ _
      have HP3 := hide (objSet (j := 0) (vs := [.slice Ax L2.length cx, .slice rA0 q0 rc0, .string (bs st0), .bool ru0]) HP2.out (.slice A2 (needF L2 x).length c2))
      have HK3 := hide (objKp (w := w2) (g := w.heap.size) (j := 0) (v := .slice A2 (needF L2 x).length c2))
      have HBW := hide (below_up HB.out HB2.out HB.out.size)
      go_wp2
      go_roundw
      case rel =>
        have hne2 : ∀ a, A2 = some a → needF L2 x ≠ [] → (A = some a ∧ L0 ≠ [] ∧ a.block < w.heap.size) ∨ w.heap.size + 1 < a.block := fun a e h => by
          rcases HFR.out a e with ⟨q0, q⟩ | q
          · exact HNE.out a q (fun hL => h (q0.trans hL))
          · have q2 : wr.heap.size ≤ a.block := q
            right
            omega
        refine ⟨k + 1, A2, c2, by go_num, by omega, ?_, ?_, ?_, ?_, ?_⟩
        · rw [HTK.out]
          exact HK3.out.sr HS2.out (fun a e h => by have := hne2 a e h; omega)
        · rw [HTK.out]; exact hide hne2
        · rw [HTK.out]; exact HP3.out
        · exact (HK3.out.block _ (by have := (Array.getElem?_eq_some_iff.1 HZ2.out).1; exact this) (by omega)).trans HZ2.out
        · exact HK3.out.below HBW.out (Nat.le_refl _) (fun k e => by omega)
      case measure => simp [intOf]; omega
    · obtain rfl : k = n := by omega
      have HTF := hide (show needsF L0 (ns.take k) = needsF L0 ns by rw [List.take_of_length_le (by omega)])
      rw [HTF.out] at HSX HGP HNE
      have hp1 := objSet (j := 1) (vs := [.slice Ax (needsF L0 ns).length cx, .slice rA0 q0 rc0, .string (bs st0), .bool ru0]) HGP.out (.slice rA q rc)
      have hk1 := objKp (w := wr) (g := w.heap.size) (j := 1) (v := .slice rA q rc)
      have hp2 := objSet (j := 2) hp1 (.string (bs st))
      have hk2 := objKp (w := wr.setCell ⟨w.heap.size, 1, none⟩ (.slice rA q rc)) (g := w.heap.size) (j := 2) (v := .string (bs st))
      have hp3 := objSet (j := 3) hp2 (.bool true)
      have hk3 := objKp (w := (wr.setCell ⟨w.heap.size, 1, none⟩ (.slice rA q rc)).setCell ⟨w.heap.size, 2, none⟩ (.string (bs st))) (g := w.heap.size) (j := 3) (v := .bool true)
      have hkk := hk1.trans ((hk2.trans (hk3.mono fun k e => .inl e)).mono fun k e => .inl e)
      have hzz := (hkk.block (w.heap.size + 1) hgl2 (by omega)).trans hgz
      obtain ⟨W3, hW3⟩ : ∃ W, ((wr.setCell ⟨w.heap.size, 1, none⟩ (.slice rA q rc)).setCell ⟨w.heap.size, 2, none⟩ (.string (bs st))).setCell ⟨w.heap.size, 3, none⟩ (.bool true) = W := ⟨_, rfl⟩
      rw [hW3] at hp3 hkk hzz
      simp only [List.set_cons_zero, List.set_cons_succ] at hp3
      obtain ⟨⟨q1, q2, q3, q4, q5, q6, q7, q8⟩, hgf, hkp⟩ := store4 hzz (.slice Ax (needsF L0 ns).length cx) (.slice rA q rc) (.string (bs st)) (.bool true)
      have HGF := hide hgf
      have HBF := hide (hkp.below (hkk.below HB.out (Nat.le_refl _) (fun k e => by omega)) (Nat.le_refl _) (fun k e => by omega))
      have HSF := hide (hkp.sr (hkk.sr HSX.out (fun a e h => by have := HNE.out a e h; omega)) (fun a e h => by have := HNE.out a e h; omega))
      have HRF := hide (HRS.out.below HBF.out)
      have m0 := cellOf hp3 (j := 0) rfl
      have m1 := cellOf hp3 (j := 1) rfl
      have m2 := cellOf hp3 (j := 2) rfl
      have m3 := cellOf hp3 (j := 3) rfl
      have n1 := cellOf HGP.out (j := 1) rfl
      have f1 := freeOf HGP.out 1
      have n2 := cellOf hp1 (j := 2) rfl
      have f2 := freeOf hp1 2
      have n3 := cellOf hp2 (j := 3) rfl
      have f3 := freeOf hp2 3
      clear hgf hkp hkk hzz hp1 hp2 hp3 hk1 hk2 hk3 hgp hgz hsx hbx hlen hl0x hnnx
      go_wp2
      refine bodyPost_ret (ret_with HGF.out rfl) rfl ?_
      rw [HE.out]
      unfold WithPost
      exact ⟨Ax, cx, by rw [HQQ.out], HSF.out, fun a e h => (HNE.out a e h).imp (fun q => ⟨q.1, q.2.1⟩) (fun q => by omega), HBF.out⟩
end Go.Proofs.YtaajofojbhdgaaaGreatDoor
/- Walk of the reference's Plan. -/
namespace Go.Proofs.YtaajofojbhdgaaaGreatDoor
open Go.RowKit Go.Deep Go.Maps Ln Pth Vf
set_option linter.unusedSimpArgs false
set_option linter.unusedVariables false
attribute [local go_sem] bt_eq

theorem ret_rplan {a : Act} {W : World} {gp : Nat} {v0 v1 v2 v3 : Value} (hr : W.heap[gp]? = some (.cells #[v0, v1, v2, v3] 49)) (h8 : a.tmps.getD 8 undef = .pointer (some ⟨gp, 0, none⟩)) :
    (results Tryz.f21 a.tmps).run Tryz.prog W = .ok (.agg #[v0, v1, v2, v3]) W := by
  have c0 : W.cell? ⟨gp, 0, none⟩ = some v0 := cellOf hr (j := 0) rfl
  have c1 : W.cell? ⟨gp, 1, none⟩ = some v1 := cellOf hr (j := 1) rfl
  have c2 : W.cell? ⟨gp, 2, none⟩ = some v2 := cellOf hr (j := 2) rfl
  have c3 : W.cell? ⟨gp, 3, none⟩ = some v3 := cellOf hr (j := 3) rfl
  simp only [results, Tryz.results21]
  simp only [Array.getD_eq_getD_getElem?] at h8
  simp [go_sem, h8, c0, c1, c2, c3]
/-- the plan in a block of its own, beside the cells of the result -/
structure PI (w : World) (gm g8 gp : Nat) (mk : Array Value) (q : Pn) (A : Option Addr) (c : Nat) (rA : Option Addr) (rc : Nat) (W : World) : Prop where
  below : Below w.heap.size w W
  mk_ : W.heap[gm]? = some (.cells mk 25)
  zero : W.heap[g8]? = some (.cells #[.slice none 0 0, .slice none 0 0, .string ⟨#[]⟩, .bool false] 49)
  plan : W.heap[gp]? = some (.cells #[.slice A q.needs.length c, .slice rA q.recipe.length rc, .string (bs q.stem), .bool q.rule] 49)
  needs : SR W A q.needs
  rec_ : SR W rA q.recipe
  na : ∀ a, A = some a → q.needs ≠ [] → gp < a.block
  ra : ∀ a, rA = some a → q.recipe ≠ [] → a.block < w.heap.size
  o1 : w.heap.size ≤ gm
  o2 : gm < g8
  o3 : g8 < gp
theorem PI.step {w W W' : World} {gm g8 gp : Nat} {mk : Array Value} {q : Pn} {A : Option Addr} {c : Nat} {rA : Option Addr} {rc : Nat} (h : PI w gm g8 gp mk q A c rA rc W) (hb : Below W.heap.size W W') : PI w gm g8 gp mk q A c rA rc W' :=
  ⟨below_up h.below hb h.below.size, (hb.block gm (Array.getElem?_eq_some_iff.1 h.mk_).1).trans h.mk_, (hb.block g8 (Array.getElem?_eq_some_iff.1 h.zero).1).trans h.zero, (hb.block gp (Array.getElem?_eq_some_iff.1 h.plan).1).trans h.plan, h.needs.below hb, h.rec_.below hb, h.na, h.ra, h.o1, h.o2, h.o3⟩
/-- behind a store into the plan -/
theorem PI.put {w W : World} {gm g8 gp : Nat} {mk : Array Value} {q q' : Pn} {A A' : Option Addr} {c c' : Nat} {rA rA' : Option Addr} {rc rc' : Nat} (h : PI w gm g8 gp mk q A c rA rc W) {j : Nat} {v : Value}
    (hp : (W.setCell ⟨gp, j, none⟩ v).heap[gp]? = some (.cells #[.slice A' q'.needs.length c', .slice rA' q'.recipe.length rc', .string (bs q'.stem), .bool q'.rule] 49))
    (hn : SR W A' q'.needs) (hr : SR W rA' q'.recipe) (hna : ∀ a, A' = some a → q'.needs ≠ [] → gp < a.block) (hra : ∀ a, rA' = some a → q'.recipe ≠ [] → a.block < w.heap.size) : PI w gm g8 gp mk q' A' c' rA' rc' (W.setCell ⟨gp, j, none⟩ v) := by
  have hk := objKp (w := W) (g := gp) (j := j) (v := v)
  have := h.o1
  have := h.o2
  have := h.o3
  refine ⟨hk.below h.below (Nat.le_refl _) (fun k e => by omega), (hk.block gm (Array.getElem?_eq_some_iff.1 h.mk_).1 (by omega)).trans h.mk_, (hk.block g8 (Array.getElem?_eq_some_iff.1 h.zero).1 (by omega)).trans h.zero, hp, hk.sr hn (fun a e q => ?_), hk.sr hr (fun a e q => ?_), hna, hra, h.o1, h.o2, h.o3⟩
  · have := hna a e q; omega
  · have := hra a e q; omega
/-- the plan is copied out -/
theorem PI.fin {w W : World} {gm g8 gp : Nat} {mk : Array Value} {q : Pn} {A : Option Addr} {c : Nat} {rA : Option Addr} {rc : Nat} (h : PI w gm g8 gp mk q A c rA rc W) :
    let v0 : Value := .slice A q.needs.length c
    let v1 : Value := .slice rA q.recipe.length rc
    (W.cell? ⟨gp, 0, none⟩ = some v0 ∧ W.cell? ⟨gp, 1, none⟩ = some v1 ∧ W.cell? ⟨gp, 2, none⟩ = some (.string (bs q.stem)) ∧ W.cell? ⟨gp, 3, none⟩ = some (.bool q.rule)) ∧
    (W.cell? ⟨g8, 0, none⟩ = some (.slice none 0 0) ∧ W.frozen? ⟨g8, 0, none⟩ = false ∧
    (W.setCell ⟨g8, 0, none⟩ v0).cell? ⟨g8, 1, none⟩ = some (.slice none 0 0) ∧ (W.setCell ⟨g8, 0, none⟩ v0).frozen? ⟨g8, 1, none⟩ = false ∧
    ((W.setCell ⟨g8, 0, none⟩ v0).setCell ⟨g8, 1, none⟩ v1).cell? ⟨g8, 2, none⟩ = some (.string ⟨#[]⟩) ∧ ((W.setCell ⟨g8, 0, none⟩ v0).setCell ⟨g8, 1, none⟩ v1).frozen? ⟨g8, 2, none⟩ = false ∧
    (((W.setCell ⟨g8, 0, none⟩ v0).setCell ⟨g8, 1, none⟩ v1).setCell ⟨g8, 2, none⟩ (.string (bs q.stem))).cell? ⟨g8, 3, none⟩ = some (.bool false) ∧ (((W.setCell ⟨g8, 0, none⟩ v0).setCell ⟨g8, 1, none⟩ v1).setCell ⟨g8, 2, none⟩ (.string (bs q.stem))).frozen? ⟨g8, 3, none⟩ = false) ∧
    ((((W.setCell ⟨g8, 0, none⟩ v0).setCell ⟨g8, 1, none⟩ v1).setCell ⟨g8, 2, none⟩ (.string (bs q.stem))).setCell ⟨g8, 3, none⟩ (.bool q.rule)).heap[g8]? = some (.cells #[v0, v1, .string (bs q.stem), .bool q.rule] 49) ∧
    RPlanPost w q (.returned (.agg #[v0, v1, .string (bs q.stem), .bool q.rule])) ((((W.setCell ⟨g8, 0, none⟩ v0).setCell ⟨g8, 1, none⟩ v1).setCell ⟨g8, 2, none⟩ (.string (bs q.stem))).setCell ⟨g8, 3, none⟩ (.bool q.rule)) := by
  intro v0 v1
  obtain ⟨hs, hg, hk⟩ := store4 h.zero v0 v1 (.string (bs q.stem)) (.bool q.rule)
  have := h.o1
  have := h.o2
  have := h.o3
  refine ⟨⟨cellOf h.plan (j := 0) rfl, cellOf h.plan (j := 1) rfl, cellOf h.plan (j := 2) rfl, cellOf h.plan (j := 3) rfl⟩, hs, hg, A, c, rA, rc, rfl, hk.sr h.needs (fun a e q => ?_), hk.sr h.rec_ (fun a e q => ?_), fun a e q => (by have := h.na a e q; omega), hk.below h.below (Nat.le_refl _) (fun k e => by omega)⟩
  · have := h.na a e q; omega
  · have := h.ra a e q; omega
/-- a plan that with told is copied out -/
theorem PI.withF {w W W2 : World} {gm g8 gp : Nat} {mk : Array Value} {q q2 : Pn} {A : Option Addr} {c : Nat} {rA : Option Addr} {rc : Nat} (h : PI w gm g8 gp mk q A c rA rc W) {A2 : Option Addr} {c2 : Nat} {rA2 : Option Addr} {rc2 : Nat}
    (hs : SR W2 A2 q2.needs) (hf : ∀ a, A2 = some a → q2.needs ≠ [] → (A = some a ∧ q.needs ≠ []) ∨ W.heap.size ≤ a.block) (hb : Below W.heap.size W W2) (hr : SR w rA2 q2.recipe) :
    let v0 : Value := .slice A2 q2.needs.length c2
    let v1 : Value := .slice rA2 q2.recipe.length rc2
    (W2.cell? ⟨g8, 0, none⟩ = some (.slice none 0 0) ∧ W2.frozen? ⟨g8, 0, none⟩ = false ∧
    (W2.setCell ⟨g8, 0, none⟩ v0).cell? ⟨g8, 1, none⟩ = some (.slice none 0 0) ∧ (W2.setCell ⟨g8, 0, none⟩ v0).frozen? ⟨g8, 1, none⟩ = false ∧
    ((W2.setCell ⟨g8, 0, none⟩ v0).setCell ⟨g8, 1, none⟩ v1).cell? ⟨g8, 2, none⟩ = some (.string ⟨#[]⟩) ∧ ((W2.setCell ⟨g8, 0, none⟩ v0).setCell ⟨g8, 1, none⟩ v1).frozen? ⟨g8, 2, none⟩ = false ∧
    (((W2.setCell ⟨g8, 0, none⟩ v0).setCell ⟨g8, 1, none⟩ v1).setCell ⟨g8, 2, none⟩ (.string (bs q2.stem))).cell? ⟨g8, 3, none⟩ = some (.bool false) ∧ (((W2.setCell ⟨g8, 0, none⟩ v0).setCell ⟨g8, 1, none⟩ v1).setCell ⟨g8, 2, none⟩ (.string (bs q2.stem))).frozen? ⟨g8, 3, none⟩ = false) ∧
    ((((W2.setCell ⟨g8, 0, none⟩ v0).setCell ⟨g8, 1, none⟩ v1).setCell ⟨g8, 2, none⟩ (.string (bs q2.stem))).setCell ⟨g8, 3, none⟩ (.bool q2.rule)).heap[g8]? = some (.cells #[v0, v1, .string (bs q2.stem), .bool q2.rule] 49) ∧
    RPlanPost w q2 (.returned (.agg #[v0, v1, .string (bs q2.stem), .bool q2.rule])) ((((W2.setCell ⟨g8, 0, none⟩ v0).setCell ⟨g8, 1, none⟩ v1).setCell ⟨g8, 2, none⟩ (.string (bs q2.stem))).setCell ⟨g8, 3, none⟩ (.bool q2.rule)) := by
  intro v0 v1
  have h2 := h.step hb
  obtain ⟨hs4, hg, hk⟩ := store4 h2.zero v0 v1 (.string (bs q2.stem)) (.bool q2.rule)
  have := h.o1
  have := h.o2
  have := h.o3
  have hgl := (Array.getElem?_eq_some_iff.1 h.zero).1
  refine ⟨hs4, hg, A2, c2, rA2, rc2, rfl, hk.sr hs (fun a e q => ?_), hk.sr (hr.below h2.below) (fun a e q => ?_), fun a e q => ?_, hk.below h2.below (Nat.le_refl _) (fun k e => by omega)⟩
  · rcases hf a e q with ⟨q1, q3⟩ | q1
    · have := h.na a q1 q3; omega
    · omega
  · have := hr.lt e q; omega
  · have hw := h.below.size
    rcases hf a e q with ⟨q1, q3⟩ | q1
    · have := h.na a q1 q3; omega
    · omega
theorem fits_kl {S : St} {cwd : T} {L : List Rl} {target : T} {p : Pn} : fitsF S cwd L target p = match firstO (pat1 S cwd (knownsF L) target p) L with
    | some q => q
    | none => match firstO (suf1 S cwd (knownsF L) target (specialR L suffixes) p) L with
      | some q => q
      | none => p := rfl
set_option maxRecDepth 100000 in
set_option maxHeartbeats 16000000 in
theorem rplan_any (mac : Value) (A : Option Addr) (c : Nat) (M : List Rl) (g : Nat) (S : St) (cwd target : T) (w : World) (hok : RpOk mac A c M g S cwd w) (ht : target.length ≤ 6000000) (hsp : ∀ x, (specialR M x).length ≤ 100000) :
    Calls Tryz.prog 21 #[.agg #[mac, .slice A M.length c], .pointer (some ⟨g, 0, none⟩), .string (bs cwd), .string (bs target)] w (RPlanPost w (planF S cwd M target)) := by
  have HOK := hide (fun W (hb : Below w.heap.size w W) => hok.below hb)
  have HSP := hide (fun W => rspec18_any target W (by omega))
  have HSN := hide hsp
  obtain ⟨n, hn⟩ : ∃ n, M.length = n := ⟨_, rfl⟩
  have HN := hide hn
  have hn1 : (n : Int) ≤ 1000 := by have := hok.ml; omega
  have hR : planF S cwd M target = if specT target = true then noPn else if (gathersF (bs target) M).recipe = [] then fitsF S cwd M target (gathersF (bs target) M) else gathersF (bs target) M := rfl
  obtain ⟨R, hRR⟩ : ∃ R, planF S cwd M target = R := ⟨_, rfl⟩
  rw [hRR] at hR ⊢
  obtain ⟨sp, hsp⟩ : ∃ q, specT target = q := ⟨_, rfl⟩
  rw [hsp] at HSP hR
  have HR := hide hR
  rw [hn]
  have hb1 := (Below.refl w.heap.size w).alloc (Nat.le_refl _) (.cells #[mac, .slice A n c] 25)
  have hb2 := hb1.alloc (by simp) (.cells #[.slice none 0 0, .slice none 0 0, .string ⟨#[]⟩, .bool false] 49)
  have hb3 := hb2.alloc (by simp; omega) (.cells #[.slice none 0 0, .slice none 0 0, .string ⟨#[]⟩, .bool false] 49)
  have HPI := hide (show PI w w.heap.size (w.heap.size + 1) (w.heap.size + 1 + 1) #[mac, .slice A n c] noPn none 0 none 0 (((w.alloc (.cells #[mac, .slice A n c] 25)).alloc (.cells #[.slice none 0 0, .slice none 0 0, .string ⟨#[]⟩, .bool false] 49)).alloc (.cells #[.slice none 0 0, .slice none 0 0, .string ⟨#[]⟩, .bool false] 49)) from by
    have z1 := heapNew w (.cells #[mac, .slice A n c] 25)
    have z2 := heapNew (w.alloc (.cells #[mac, .slice A n c] 25)) (.cells #[.slice none 0 0, .slice none 0 0, .string ⟨#[]⟩, .bool false] 49)
    have z3 := heapNew ((w.alloc (.cells #[mac, .slice A n c] 25)).alloc (.cells #[.slice none 0 0, .slice none 0 0, .string ⟨#[]⟩, .bool false] 49)) (.cells #[.slice none 0 0, .slice none 0 0, .string ⟨#[]⟩, .bool false] 49)
    simp only [World.size_alloc] at z2 z3
    exact ⟨hb3, ((Below.heap_alloc _ _ _ (by simp <;> omega)).trans (Below.heap_alloc _ _ _ (by simp))).trans z1, (Below.heap_alloc _ _ _ (by simp)).trans z2, z3, SR.nil _ _, SR.nil _ _, fun a e => (by cases e), fun a e => (by cases e), Nat.le_refl _, by omega, by omega⟩)
  obtain ⟨g8, hg8⟩ : ∃ k, w.heap.size + 1 = k := ⟨_, rfl⟩
  obtain ⟨gp, hgp⟩ : ∃ k, g8 + 1 = k := ⟨_, rfl⟩
  obtain ⟨W0, hW0⟩ : ∃ W, (((w.alloc (.cells #[mac, .slice A n c] 25)).alloc (.cells #[.slice none 0 0, .slice none 0 0, .string ⟨#[]⟩, .bool false] 49)).alloc (.cells #[.slice none 0 0, .slice none 0 0, .string ⟨#[]⟩, .bool false] 49)) = W := ⟨_, rfl⟩
  rw [hW0] at HPI
  obtain ⟨mk, hmk⟩ : ∃ x, (#[mac, .slice A n c] : Array Value) = x := ⟨_, rfl⟩
  rw [hmk] at HPI
  have HMK := hide hmk
  clear hmk
  clear hok hn hR hRR hsp hb1 hb2 hb3
  go_enter Tryz.func21, Tryz.ntmps21
  go_wp2_with fail
  refine (HSP.out _).mono ?_
  rintro e w' ⟨rfl, rfl⟩
  obtain ⟨q0, hq0⟩ : ∃ q, noPn = q := ⟨_, rfl⟩
  rw [hq0, hg8, hgp] at HPI
  have HQ0 := hide hq0
  have HGP := hide hgp
  have HG8 := hide hg8
  clear hW0 hq0 hgp hg8
  cases sp with
  | true =>
    have HE := hide (HR.out.trans (if_pos rfl))
    obtain ⟨⟨m0, m1, m2, m3⟩, ⟨q1, q2, q3, q4, q5, q6, q7, q8⟩, hgf, hpo⟩ := PI.fin HPI.out
    have HGF := hide hgf
    have HPO := hide hpo
    clear hgf hpo
    go_wp2
    refine bodyPost_ret (ret_rplan HGF.out rfl) rfl ?_
    rw [HE.out, HQ0.out]
    exact HPO.out
  | false =>
  have HR2 := hide (HR.out.trans (if_neg (by simp)))
  go_wp2
  go_loopw [10, 11, 12] (fun v10 _ _ wr => ∃ (k : Nat) (A2 : Option Addr) (c2 : Nat) (rA : Option Addr) (rc : Nat), v10 = .int .i64 k ∧ k ≤ n ∧ PI w w.heap.size g8 gp mk (gathersF (bs target) (M.take k)) A2 c2 rA rc wr) (fun v10 _ _ _ => n - (intOf v10).toNat)
  case atStart => exact ⟨0, none, 0, none, 0, rfl, by omega, by rw [show gathersF (bs target) (M.take 0) = q0 from HQ0.out]; exact HPI.out⟩
  case round =>
    obtain ⟨wo, hwo⟩ : ∃ Z, Z = wr := ⟨_, rfl⟩
    subst hwo
    obtain ⟨k, Ax, cx, rA, rc, rfl, hk, hpi⟩ := hrel
    have HP := hide hpi
    have hmm1 : wo.cell? ⟨w.heap.size, 1, none⟩ = some (.slice A n c) := cellOf' hpi.mk_ (j := 1) (by rw [← HMK.out]; rfl)
    have HBW := hide hpi.below
    clear hpi
    by_cases hlt : k < n
    · obtain ⟨r, hr⟩ : ∃ r, M[k]? = some r := ⟨M[k]'(by have := HN.out; omega), List.getElem?_eq_getElem _⟩
      obtain ⟨⟨ta, tc, tl⟩, ⟨na, nc, nl⟩, ⟨ra, rcc, rl⟩⟩ := r
      have hokw := HOK.out wo HBW.out
      obtain ⟨gz, oz, rfl, hgz, hc⟩ := hokw.rl.1 k _ hr
      have HRK0 := hide ((HOK.out w (Below.refl _ _)).rl.2 _ (List.mem_of_getElem? hr))
      have HRK := hide (hokw.rl.2 _ (List.mem_of_getElem? hr))
      have htz := hokw.tz _ (List.mem_of_getElem? hr)
      have c0 : wo.cell? ⟨gz, oz + k * 3, none⟩ = some (.slice ta tl.length tc) := by have := hc 0 _ rfl; simpa [sv] using this
      have c1 : wo.cell? ⟨gz, oz + k * 3 + 1, none⟩ = some (.slice na nl.length nc) := hc 1 _ rfl
      have c2 : wo.cell? ⟨gz, oz + k * 3 + 2, none⟩ = some (.slice ra rl.length rcc) := hc 2 _ rfl
      have b1 : (k : Int) < (n : Int) := by omega
      have HTK := hide (gathers_take (target := bs target) hr)
      obtain ⟨q, hq⟩ : ∃ q, gathersF (bs target) (M.take k) = q := ⟨_, rfl⟩
      have hql0 := gathers_len (t := bs target) M k
      have hsl0 := special_len_take M (bs target) k
      have hql := gathers_len (t := bs target) M (k + 1)
      have hsl := special_len_take M (bs target) (k + 1)
      have hsn := HSN.out (bs target)
      rw [HTK.out, hq] at hql
      rw [hq] at hql0
      rw [hq] at HTK HP
      have HPL := hide (fun Z (hb : Below wo.heap.size wo Z) => rplain_any ⟨(ta, tc, tl), (na, nc, nl), (ra, rcc, rl)⟩ Z (HRK.out.below hb) (fun s hs => Nat.le_trans (htz s hs) (by omega)))
      have HCT := hide (fun Z (hb : Below wo.heap.size wo Z) => rhas_any ta tc tl (bs target) Z (HRK.out.tg.below hb) (by have := HRK.out.t1; simp at this; omega))
      have hof : ofR (bs target) ⟨(ta, tc, tl), (na, nc, nl), (ra, rcc, rl)⟩ = (plainR tl && Lib.containsS tl (bs target)) := rfl
      have hga : gatherF (bs target) q ⟨(ta, tc, tl), (na, nc, nl), (ra, rcc, rl)⟩ = if ofR (bs target) ⟨(ta, tc, tl), (na, nc, nl), (ra, rcc, rl)⟩ = true then ⟨needsF q.needs nl, if 0 < rl.length then rl else q.recipe, q.stem, true⟩ else q := rfl
      rw [hof] at hga
      unfold sv at HPL
      simp only at HPL
      obtain ⟨p1, hp1⟩ : ∃ b, plainR tl = b := ⟨_, rfl⟩
      obtain ⟨p2, hp2⟩ : ∃ b, Lib.containsS tl (bs target) = b := ⟨_, rfl⟩
      rw [hp1] at HPL hga
      rw [hp2] at HCT hga
      obtain ⟨tn, htn⟩ : ∃ n, tl.length = n := ⟨_, rfl⟩
      obtain ⟨m, hm⟩ : ∃ n, nl.length = n := ⟨_, rfl⟩
      obtain ⟨u, hu⟩ : ∃ n, rl.length = n := ⟨_, rfl⟩
      rw [htn] at c0 HPL HCT
      rw [hm] at c1 HPL
      rw [hu] at c2 HPL hga
      have HGA := hide hga
      have HM := hide hm
      have HU := hide hu
      have HQ0L := hide (show q.needs.length ≤ 100000 by omega)
      have HQL := hide (show (gatherF (bs target) q ⟨(ta, tc, tl), (na, nc, nl), (ra, rcc, rl)⟩).needs.length ≤ 100000 by omega)
      have hB1 := (Below.refl wo.heap.size wo).alloc (Nat.le_refl _) (.cells #[.slice ta tn tc, .slice na m nc, .slice ra u rcc] 63)
      have hN1 := heapNew wo (.cells #[.slice ta tn tc, .slice na m nc, .slice ra u rcc] 63)
      obtain ⟨gr, hgr⟩ : ∃ k, wo.heap.size = k := ⟨_, rfl⟩
      rw [hgr] at hN1
      have HB1 := hide hB1
      have HN1 := hide hN1
      have HGR := hide hgr
      have hrr1 : nl.length ≤ 100000 := HRK.out.n1
      have hmi : (m : Int) ≤ 100000 := by omega
      have hui : (u : Int) ≤ 100000 := by have : rl.length ≤ 100000 := HRK.out.r1; omega
      clear hr hokw hc htz hof hga hp1 hp2 htn hm hu hB1 hN1 hq hql hsl hsn hql0 hsl0
      go_wp2_with fail
      refine (HPL.out _ HB1.out).mono ?_
      rintro e w1 ⟨rfl, hb1⟩
      have hnr1 := (hb1.block gr (Array.getElem?_eq_some_iff.1 HN1.out).1).trans HN1.out
      have HNR1 := hide hnr1
      have d0 := cellOf' hnr1 (j := 0) rfl
      have HBw := hide (below_up HB1.out hb1 HB1.out.size)
      have HP1 := hide (HP.out.step HBw.out)
      clear hb1 hnr1 c0 c1 c2
      cases p1 with
      | false =>
        have HE := hide (HTK.out.trans (HGA.out.trans (if_neg (by simp))))
        go_wp2
        go_roundw
        case rel => exact ⟨k + 1, Ax, cx, rA, rc, by go_num, by omega, by rw [HE.out]; exact HP1.out⟩
        case measure => simp [intOf]; omega
      | true =>
      go_wp2_with fail
      refine (HCT.out w1 HBw.out).mono ?_
      rintro e w' ⟨rfl, rfl⟩
      cases p2 with
      | false =>
        have HE := hide (HTK.out.trans (HGA.out.trans (if_neg (by simp))))
        go_wp2
        go_roundw
        case rel => exact ⟨k + 1, Ax, cx, rA, rc, by go_num, by omega, by rw [HE.out]; exact HP1.out⟩
        case measure => simp [intOf]; omega
      | true =>
      have HE := hide (HTK.out.trans (HGA.out.trans (if_pos rfl)))
      have hql2 := HQL.out
      rw [HGA.out, if_pos (by rfl)] at hql2
      have HQ2 := hide (show (needsF q.needs nl).length ≤ 100000 from hql2)
      have hp1 := HP1.out.plan
      have n3 := cellOf hp1 (j := 3) rfl
      have f3 := freeOf hp1 3
      have hgrp : gp < gr := by
        have := (Array.getElem?_eq_some_iff.1 HP.out.plan).1
        have := HGR.out
        omega
      have HP2 := hide (HP1.out.put (q' := ⟨q.needs, q.recipe, q.stem, true⟩) (j := 3) (v := .bool true) (by rw [heapSet hp1]; rfl) HP1.out.needs HP1.out.rec_ HP1.out.na HP1.out.ra)
      have HNR2 := hide (((objKp (w := w1) (g := gp) (j := 3) (v := .bool true)).block gr (Array.getElem?_eq_some_iff.1 HNR1.out).1 (by omega)).trans HNR1.out)
      clear hp1 hql2 d0
      go_wp2
      obtain ⟨w2, hw2⟩ : ∃ W, w1.setCell ⟨gp, 3, none⟩ (.bool true) = W := ⟨_, rfl⟩
      rw [hw2] at HP2 HNR2 ⊢
      clear hw2 n3 f3
      go_loopw [12] (fun v12 wi => ∃ (j : Nat) (A2 : Option Addr) (c2 : Nat), v12 = .int .i64 j ∧ j ≤ m ∧ PI w w.heap.size g8 gp mk ⟨needsF q.needs (nl.take j), q.recipe, q.stem, true⟩ A2 c2 rA rc wi ∧ wi.heap[gr]? = some (.cells #[.slice ta tn tc, .slice na m nc, .slice ra u rcc] 63)) (fun v12 _ => m - (intOf v12).toNat)
      case atStart => exact ⟨0, Ax, cx, rfl, by omega, HP2.out, HNR2.out⟩
      case round =>
        obtain ⟨wi, hwi⟩ : ∃ Z, Z = wr := ⟨_, rfl⟩
        subst hwi
        obtain ⟨j, Ay, cy, rfl, hj, hpi, hnr⟩ := hrel
        have HPJ := hide hpi
        have HNRJ := hide hnr
        have dr1 := cellOf' hnr (j := 1) rfl
        have dr2 := cellOf' hnr (j := 2) rfl
        have hgrl := (Array.getElem?_eq_some_iff.1 hnr).1
        by_cases hlt2 : j < m
        · obtain ⟨x, hx⟩ : ∃ x, nl[j]? = some x := ⟨nl[j]'(by have := HM.out; omega), List.getElem?_eq_getElem _⟩
          obtain ⟨gs, o, rfl, hgs, hcx⟩ := HRK0.out.nd j x hx
          have hcw := (hpi.below.cell (p := ⟨gs, o + j, none⟩) hgs).trans hcx
          have HTJ := hide (needsF_take (l := q.needs) hx)
          have hgp := hpi.plan
          have hgl := (Array.getElem?_eq_some_iff.1 hgp).1
          have hns := hpi.needs
          dsimp only at hgp hns
          have hll := needsF_len (nl.take j) q.needs
          obtain ⟨L2, hL2⟩ : ∃ l, needsF q.needs (nl.take j) = l := ⟨_, rfl⟩
          rw [hL2] at HTJ hgp hns HPJ hll
          have hl2 : L2.length ≤ 40000000 := by
            have h1 := HQ0L.out
            have h2 := HM.out
            rw [List.length_take] at hll
            omega
          have HON := hide (fun Z (hb : Below wi.heap.size wi Z) => ronce_any Ay cy L2 x Z (hns.below hb) hl2)
          have HQ := hide (fun Z (hb : Below wi.heap.size wi Z) => show (fun Z => Z.cell? ⟨gr, 1, none⟩ = some (.slice (some ⟨gs, o, none⟩) m nc) ∧ Z.cell? ⟨gs, o + j, none⟩ = some (.string x)) Z from ⟨(hb.cell (p := ⟨gr, 1, none⟩) hgrl).trans dr1, (hb.cell (p := ⟨gs, o + j, none⟩) (World.block_lt_of_cell? _ _ hcw)).trans hcw⟩)
          have hgne : ¬ gs = gp := by have := hpi.o1; have := hpi.o2; have := hpi.o3; omega
          have hgne2 : ¬ gr = gp := by omega
          have hgd : wi.cell? ⟨gp, 0, none⟩ = some (.slice Ay L2.length cy) := cellOf hgp (j := 0) rfl
          have b2 : (j : Int) < (m : Int) := by omega
          clear hx hcx hcw hL2 hll dr2 hpi
          go_wp2_with fail
          refine wp_region_held_drew (S := (fun Z => Z.cell? ⟨gr, 1, none⟩ = some (.slice (some ⟨gs, o, none⟩) m nc) ∧ Z.cell? ⟨gs, o + j, none⟩ = some (.string x))) (by kernel_rfl) (HQ.out _ (Below.refl _ _).drew) (fun hHeld => ?_)
          refine wpAnyH_tk (i := 0) (oi := _) (v := ?v0) rfl rfl (by kernel_rfl) (by kernel_rfl) (by kernel_rfl) (fun _ _ _ h => h) (Or.inl ⟨by kernel_rfl, ?y0⟩) (by assumption) ?r0
          case y0 =>
            intro w hSw
            (try dsimp only at hSw)
            go_simp
            try with_reducible rfl
          try simp only [List.setIfInBounds_toArray, List.set_cons_zero, List.set_cons_succ]
          refine wpAnyH_tk (i := 2) (oi := _) (v := ?v2) rfl rfl (by kernel_rfl) (by kernel_rfl) (by kernel_rfl) (fun _ _ _ h => h) (Or.inl ⟨by kernel_rfl, ?y2⟩) (by assumption) ?r2
          case y2 =>
            intro w hSw
            (try dsimp only at hSw)
            go_simp
            try with_reducible rfl
          try simp only [List.setIfInBounds_toArray, List.set_cons_zero, List.set_cons_succ]
          refine wpAnyH_tk (i := 3) (oi := _) (v := ?v3) rfl rfl (by kernel_rfl) (by kernel_rfl) (by kernel_rfl) (fun _ _ _ h => h) (Or.inl ⟨by kernel_rfl, ?y3⟩) (by assumption) ?r3
          case y3 =>
            intro w hSw
            (try dsimp only at hSw)
            go_simp
            try with_reducible rfl
          try simp only [List.setIfInBounds_toArray, List.set_cons_zero, List.set_cons_succ]
          refine wpAnyH_tk (i := 4) (oi := _) (v := ?v4) rfl rfl (by kernel_rfl) (by kernel_rfl) (by kernel_rfl) (fun _ _ _ h => h) (Or.inl ⟨by kernel_rfl, ?y4⟩) (by assumption) ?r4
          case y4 =>
            intro w hSw
            (try dsimp only at hSw)
            go_simp
            try with_reducible rfl
          try simp only [List.setIfInBounds_toArray, List.set_cons_zero, List.set_cons_succ]
          refine wpAnyH_tk (i := 5) (oi := _) (v := ?v5) rfl rfl (by kernel_rfl) (by kernel_rfl) (by kernel_rfl) (fun _ _ _ h => h) (Or.inl ⟨by kernel_rfl, ?y5⟩) (by assumption) ?r5
          case y5 =>
            intro w hSw
            (try dsimp only at hSw)
            go_simp
            try with_reducible rfl
          try simp only [List.setIfInBounds_toArray, List.set_cons_zero, List.set_cons_succ]
          refine wpAnyH_tk (i := 6) (oi := _) (v := ?v6) rfl rfl (by kernel_rfl) (by kernel_rfl) (by kernel_rfl) (fun _ _ _ h => h) (Or.inl ⟨by kernel_rfl, ?y6⟩) (by assumption) ?r6
          case y6 =>
            intro w hSw
            (try dsimp only at hSw)
            go_simp
            try with_reducible rfl
          try simp only [List.setIfInBounds_toArray, List.set_cons_zero, List.set_cons_succ]
          refine wpAnyH_ready (rs := [1]) (by kernel_rfl) (by simp) ?_
          refine AllReadyH.cons (o := _) rfl (fun K hK => ?_) AllReadyH.nil
          rw [if_pos (by kernel_rfl)]
          go_simp
          refine hK.out _ _ (HQ.out _ (Below.refl _ _).drew) (fun _ => ?_)
          clear hK K
          try simp only [Act.put, List.setIfInBounds_toArray, List.set_cons_zero, List.set_cons_succ]
          refine wpAnyH_ready (rs := [7]) (by kernel_rfl) (by simp) ?_
          refine AllReadyH.cons (o := _) rfl (fun K hK => ?_) AllReadyH.nil
          rw [if_pos (by kernel_rfl)]
          go_simp
          refine (HON.out _ (Below.refl _ _).drew).mono ?_
          rintro e w2 ⟨⟨A2, c2, rfl, hs2, hfr⟩, hb2⟩
          have hp2 := (hb2.block gp hgl).trans hgp
          have HP2x := hide (HPJ.out.step ((Below.refl wi.heap.size wi).drew.trans hb2))
          have HS2 := hide hs2
          have HFR := hide hfr
          have HB2 := hide ((Below.refl wi.heap.size wi).drew.trans hb2)
          have HQ3 := hide (show (fun Z => Z.cell? ⟨gr, 1, none⟩ = some (.slice (some ⟨gs, o, none⟩) m nc) ∧ Z.cell? ⟨gs, o + j, none⟩ = some (.string x)) (w2.setCell ⟨gp, 0, none⟩ (.slice A2 (needF L2 x).length c2)) from ⟨(objKp (j := 0) (v := .slice A2 (needF L2 x).length c2)).cell (HQ.out _ HB2.out).1 hgne2, (objKp (j := 0) (v := .slice A2 (needF L2 x).length c2)).cell (HQ.out _ HB2.out).2 hgne⟩)
          have hc2 := cellOf hp2 (j := 0) rfl
          have hf2 := freeOf hp2 0
          clear hb2 hp2 hs2 hfr
          refine hK.out _ _ (HQ.out _ HB2.out) (fun _ => ?_)
          clear hK K
          try simp only [Act.put, List.setIfInBounds_toArray, List.set_cons_zero, List.set_cons_succ]
          refine wpAnyH_tk (i := 8) (oi := _) (v := ?v8) rfl rfl (by kernel_rfl) (by kernel_rfl) (by kernel_rfl) (fun _ _ _ h => h) (Or.inl ⟨by kernel_rfl, ?y8⟩) (by assumption) ?r8
          case y8 =>
            intro w hSw
            (try dsimp only at hSw)
            go_simp
            try with_reducible rfl
          try simp only [List.setIfInBounds_toArray, List.set_cons_zero, List.set_cons_succ]
          refine wpAnyH_ready (rs := [9]) (by kernel_rfl) (by simp) ?_
          refine AllReadyH.cons (o := _) rfl (fun K hK => ?_) AllReadyH.nil
          rw [if_pos (by kernel_rfl)]
          go_simp
          refine hK.out _ _ HQ3.out (fun _ => ?_)
          clear hK K
          try simp only [Act.put, List.setIfInBounds_toArray, List.set_cons_zero, List.set_cons_succ]
          refine wpAnyH_done (by kernel_rfl) ?_ _
          have hp3 := HP2x.out.plan
          have HP3 := hide (HP2x.out.put (q' := ⟨needF L2 x, q.recipe, q.stem, true⟩) (A' := A2) (c' := c2) (rA' := rA) (rc' := rc) (j := 0) (v := .slice A2 (needF L2 x).length c2) (by rw [heapSet hp3]; rfl) HS2.out HP2x.out.rec_ (fun a e h => by
            rcases HFR.out a e with ⟨q0, q1⟩ | q1
            · exact HPJ.out.na a q1 (fun hL => h (q0.trans hL))
            · have q2 : wi.heap.size ≤ a.block := q1
              omega) HP2x.out.ra)
          have HNR3 := hide (((objKp (w := w2) (g := gp) (j := 0) (v := .slice A2 (needF L2 x).length c2)).block gr (by have := HB2.out.size; omega) (by omega)).trans ((HB2.out.block gr hgrl).trans HNRJ.out))
          clear hp3 hc2 hf2
          go_wp2
          go_roundw
          case rel => exact ⟨j + 1, A2, c2, by go_num, by omega, by rw [HTJ.out]; exact HP3.out, HNR3.out⟩
          case measure => simp [intOf]; omega
        · obtain rfl : j = m := by omega
          have hte : nl.take j = nl := List.take_of_length_le (by have := HM.out; omega)
          rw [hte] at HPJ
          by_cases hu0 : 0 < u
          · have t1 : decide ((0 : Int) < (u : Int)) = true := by simp; omega
            have t1' : decide (0 < u) = true := by simpa using hu0
            have hE2 := HE.out
            rw [if_pos hu0] at hE2
            have HE2 := hide hE2
            have hp4 := HPJ.out.plan
            have n1 := cellOf hp4 (j := 1) rfl
            have f1 := freeOf hp4 1
            have hrs := HRK0.out.rc.below HPJ.out.below
            have HP4 := hide (HPJ.out.put (q' := ⟨needsF q.needs nl, rl, q.stem, true⟩) (A' := Ay) (c' := cy) (rA' := ra) (rc' := rcc) (j := 1) (v := .slice ra u rcc) (by rw [heapSet hp4]; rw [HU.out]; rfl) HPJ.out.needs hrs HPJ.out.na (fun a e h => HRK0.out.rc.lt e h))
            clear hu0 hE2 hp4 hrs hte hpi
            go_wp2
            go_roundw
            case rel => exact ⟨k + 1, Ay, cy, ra, rcc, by go_num, by omega, by rw [HE2.out]; exact HP4.out⟩
            case measure => simp [intOf]; omega
          · have t1 : decide ((0 : Int) < (u : Int)) = false := by simp; omega
            have t1' : decide (0 < u) = false := by simpa using hu0
            have hE2 := HE.out
            rw [if_neg hu0] at hE2
            have HE2 := hide hE2
            clear hu0 hE2 hte hpi
            go_wp2
            go_roundw
            case rel => exact ⟨k + 1, Ay, cy, rA, rc, by go_num, by omega, by rw [HE2.out]; exact HPJ.out⟩
            case measure => simp [intOf]; omega
    · obtain rfl : k = n := by omega
      have htf : M.take k = M := List.take_of_length_le (by have := HN.out; omega)
      rw [htf] at HP
      have hql := gathers_len (t := bs target) M k
      rw [htf] at hql
      have hsn := HSN.out (bs target)
      obtain ⟨q, hq⟩ : ∃ q, gathersF (bs target) M = q := ⟨_, rfl⟩
      have hR3 := HR2.out
      rw [hq] at HP hR3 hql
      have HQL := hide (show q.needs.length ≤ 100000 by omega)
      have HR3 := hide hR3
      have hp0 := HP.out.plan
      have hd1 : wo.cell? ⟨gp, 1, none⟩ = some (.slice rA q.recipe.length rc) := cellOf hp0 (j := 1) rfl
      clear hR3 hql hsn hq htf HR2 HR hp0
      by_cases hrc : q.recipe = []
      case neg =>
        have HE := hide (HR3.out.trans (if_neg hrc))
        have hpos : 0 < q.recipe.length := List.length_pos_iff.2 hrc
        have t1 : decide ((0 : Int) < (q.recipe.length : Int)) = true := by simp; omega
        have t1' : decide (0 < q.recipe.length) = true := by simpa using hpos
        obtain ⟨⟨m0, m1, m2, m3⟩, ⟨q1, q2, q3, q4, q5, q6, q7, q8⟩, hgf, hpo⟩ := PI.fin HP.out
        have HGF := hide hgf
        have HPO := hide hpo
        clear hgf hpo hrc
        go_wp2
        refine bodyPost_ret (ret_rplan HGF.out rfl) rfl ?_
        rw [HE.out]
        exact HPO.out
      have hr4 := HR3.out.trans (if_pos hrc)
      rw [fits_kl] at hr4
      have HR4 := hide hr4
      have h0 : q.recipe.length = 0 := by rw [hrc]; rfl
      have t1 : decide ((0 : Int) < (q.recipe.length : Int)) = false := by simp; omega
      have t1' : decide (0 < q.recipe.length) = false := by simp; omega
      clear hr4 hrc
      go_wp2
      go_loopw [13, 14, 15, 16, 17] (fun v13 _ _ _ _ wr => ∃ j : Nat, v13 = .int .i64 j ∧ j ≤ k ∧ Hid (firstO (pat1 S cwd (knownsF M) target q) (M.take j) = none) ∧ PI w w.heap.size g8 gp mk q Ax cx rA rc wr) (fun v13 _ _ _ _ _ => k - (intOf v13).toNat)
      case atStart => exact ⟨0, rfl, by omega, hide rfl, HP.out⟩
      case round =>
        obtain ⟨wi, hwi⟩ : ∃ Z, Z = wr := ⟨_, rfl⟩
        subst hwi
        obtain ⟨j, rfl, hj, HFN, hpi⟩ := hrel
        have HPJ := hide hpi
        have hmm0 : wi.cell? ⟨w.heap.size, 0, none⟩ = some mac := cellOf' hpi.mk_ (j := 0) (by rw [← HMK.out]; rfl)
        have hmm1 : wi.cell? ⟨w.heap.size, 1, none⟩ = some (.slice A k c) := cellOf' hpi.mk_ (j := 1) (by rw [← HMK.out]; rfl)
        have HBJ := hide hpi.below
        clear hpi
        by_cases hlt : j < k
        · obtain ⟨r, hr⟩ : ∃ r, M[j]? = some r := ⟨M[j]'(by have := HN.out; omega), List.getElem?_eq_getElem _⟩
          have hmem := List.mem_of_getElem? hr
          have hokw := HOK.out wi HBJ.out
          have HRK0 := hide ((HOK.out w (Below.refl _ _)).rl.2 _ hmem)
          have HFT := hide (fun Z (hb : Below w.heap.size w Z) => rfits_any mac A c M g S cwd target r Z (HOK.out Z hb) ((HOK.out Z hb).rl.2 _ hmem) hmem ht)
          have HPL := hide (fun Z (hb : Below w.heap.size w Z) => rplain_any r Z ((HOK.out Z hb).rl.2 _ hmem) (fun s hs => Nat.le_trans ((HOK.out Z hb).tz _ hmem s hs) (by omega)))
          have HX := hide hr
          have hst := fun (h : pat1 S cwd (knownsF M) target q r = none) => firstO_step (pat1 S cwd (knownsF M) target q) M j r HFN.out hr h
          have hfo := fun b (h : pat1 S cwd (knownsF M) target q r = some b) => firstO_found (pat1 S cwd (knownsF M) target q) M j r b HFN.out hr h
          have hpa : pat1 S cwd (knownsF M) target q r = if plainR r.tg.2.2 = true then none else if r.rc.2.2.length = 0 then none else (fitsO S cwd (knownsF M) target r).map fun x => takesF q x.1 r.rc.2.2 x.2 := by
            unfold pat1
            rw [patO_fits]
          obtain ⟨gz, oz, eA, hgz, hc⟩ := hokw.rl.1 j _ hr
          obtain ⟨⟨ta, tc, tl⟩, ⟨na, nc, nl⟩, ⟨ra, rcc, rl⟩⟩ := r
          have c0 : wi.cell? ⟨gz, oz + j * 3, none⟩ = some (.slice ta tl.length tc) := by have := hc 0 _ rfl; simpa [sv] using this
          have c1 : wi.cell? ⟨gz, oz + j * 3 + 1, none⟩ = some (.slice na nl.length nc) := hc 1 _ rfl
          have c2 : wi.cell? ⟨gz, oz + j * 3 + 2, none⟩ = some (.slice ra rl.length rcc) := hc 2 _ rfl
          have b1 : (j : Int) < (k : Int) := by omega
          obtain ⟨FQ, hFQ⟩ : ∃ x, fitsO S cwd (knownsF M) target ⟨(ta, tc, tl), (na, nc, nl), (ra, rcc, rl)⟩ = x := ⟨_, rfl⟩
          have hfl : ∀ x, FQ = some x → x.1.length ≤ 100000 := fun x hx => by
            rw [← hFQ] at hx
            unfold fitsO at hx
            dsimp only at hx
            split at hx
            · cases hx
            · split at hx
              · injection hx with hx
                rw [← hx]
                unfold fillsF
                rw [List.length_map]
                exact HRK0.out.n1
              · cases hx
          rw [hFQ] at HFT hpa
          unfold sv at HPL HFT
          simp only at HPL HFT
          have HFL := hide hfl
          obtain ⟨p1, hp1⟩ : ∃ b, plainR tl = b := ⟨_, rfl⟩
          rw [hp1] at HPL
          dsimp only at hpa
          rw [hp1] at hpa
          obtain ⟨tn, htn⟩ : ∃ n, tl.length = n := ⟨_, rfl⟩
          obtain ⟨m, hm⟩ : ∃ n, nl.length = n := ⟨_, rfl⟩
          obtain ⟨u, hu⟩ : ∃ n, rl.length = n := ⟨_, rfl⟩
          have hnk := HN.out
          rw [htn] at c0 HPL HFT
          rw [hm] at c1 HPL HFT
          rw [hu] at c2 HPL hpa HFT
          rw [hnk] at HFT
          have HU := hide hu
          have HPA := hide hpa
          have HST := hide hst
          have HFO := hide hfo
          have hB1 := (Below.refl wi.heap.size wi).alloc (Nat.le_refl _) (.cells #[.slice ta tn tc, .slice na m nc, .slice ra u rcc] 63)
          have hN1 := heapNew wi (.cells #[.slice ta tn tc, .slice na m nc, .slice ra u rcc] 63)
          obtain ⟨gr, hgr⟩ : ∃ k, wi.heap.size = k := ⟨_, rfl⟩
          rw [hgr] at hN1
          have HB1 := hide hB1
          have HN1 := hide hN1
          have HPW := hide (HPJ.out.step hB1)
          have hmx0 := (hB1.cell (p := ⟨w.heap.size, 0, none⟩) (World.block_lt_of_cell? _ _ hmm0)).trans hmm0
          have hmx1 := (hB1.cell (p := ⟨w.heap.size, 1, none⟩) (World.block_lt_of_cell? _ _ hmm1)).trans hmm1
          rw [eA] at hmm1 hmx1 HFT ⊢
          clear hr hmem hokw hc hFQ hfl hp1 htn hm hu hB1 hN1 hst hfo hpa hnk
          go_wp2_with fail
          refine (HFT.out _ HPW.out.below).mono ?_
          rintro e w1 ⟨hb1, fA, fc, fn, st, rfl, hsome⟩
          have HP1 := hide (HPW.out.step hb1)
          have hnr1 := (hb1.block gr (Array.getElem?_eq_some_iff.1 HN1.out).1).trans HN1.out
          have hgl1 := (Array.getElem?_eq_some_iff.1 hnr1).1
          have HNR1 := hide hnr1
          have d0 := cellOf' hnr1 (j := 0) rfl
          have d1 := cellOf' hnr1 (j := 1) rfl
          have d2 := cellOf' hnr1 (j := 2) rfl
          have HSM := hide hsome
          obtain ⟨okb, hokb⟩ : ∃ b, FQ.isSome = b := ⟨_, rfl⟩
          rw [hokb]
          have HOKB := hide hokb
          clear hokb hb1 hnr1 hsome hmm0 hmm1 hmx0 hmx1 c0 c1 c2
          go_wp2_with fail
          refine (HPL.out w1 HP1.out.below).mono ?_
          rintro e w2 ⟨rfl, hb2⟩
          have HP2 := hide (HP1.out.step hb2)
          have hnr2 := (hb2.block gr hgl1).trans HNR1.out
          have d22 := cellOf' hnr2 (j := 2) rfl
          have HB2 := hide hb2
          clear hb2 hnr2 d0 d1 d2
          cases p1 with
          | true =>
            have HE := hide (HST.out (HPA.out.trans (if_pos rfl)))
            go_wp2
            go_roundw
            case rel => exact ⟨j + 1, by go_num, by omega, HE, HP2.out⟩
            case measure => simp [intOf]; omega
          | false =>
          by_cases hu0 : u = 0
          · have t2 : ((u : Int) == 0) = true := by simp only [beq_iff_eq]; omega
            have HE := hide (HST.out (HPA.out.trans ((if_neg (by simp)).trans (if_pos hu0))))
            clear hu0
            go_wp2
            go_roundw
            case rel => exact ⟨j + 1, by go_num, by omega, HE, HP2.out⟩
            case measure => simp [intOf]; omega
          have t2 : ((u : Int) == 0) = false := by simp only [beq_eq_false_iff_ne]; omega
          have hpb := HPA.out.trans ((if_neg (by simp)).trans (if_neg hu0))
          cases okb with
          | false =>
            have hq0 : FQ = none := by have := HOKB.out; cases FQ with | none => rfl | some x => cases this
            rw [hq0] at hpb
            have HE := hide (HST.out hpb)
            clear hu0 hpb
            go_wp2
            go_roundw
            case rel => exact ⟨j + 1, by go_num, by omega, HE, HP2.out⟩
            case measure => simp [intOf]; omega
          | true =>
            obtain ⟨⟨ns, st'⟩, hfq⟩ : ∃ fq, FQ = some fq := by have := HOKB.out; cases FQ with | none => cases this | some x => exact ⟨x, rfl⟩
            subst hfq
            obtain ⟨hst1, hfn1, hsr1⟩ := HSM.out _ rfl
            dsimp only at hst1 hfn1 hsr1
            subst hst1
            have hfb := HFO.out _ hpb
            have hrr := HR4.out
            rw [hfb] at hrr
            have HE := hide (show R = takesF q ns rl st' from hrr)
            have hnl : ns.length ≤ 100000 := HFL.out _ rfl
            have HWI := hide (rwith_any q Ax cx rA rc fA fc ns ra rcc rl st' w2 HP2.out.needs (hsr1.below HB2.out) (HRK0.out.rc.below HP2.out.below) (by have := HQL.out; omega))
            rw [HU.out, ← hfn1, h0] at HWI
            have hpl2 := HP2.out.plan
            have m0 := cellOf hpl2 (j := 0) rfl
            have m1 := cellOf hpl2 (j := 1) rfl
            have m2 := cellOf hpl2 (j := 2) rfl
            have m3 := cellOf hpl2 (j := 3) rfl
            unfold WithPost at HWI
            clear hu0 hpb hfb hrr hpl2 hsr1 hfn1
            go_wp2_with fail
            refine HWI.out.mono ?_
            rintro e w3 ⟨A3, c3, rfl, hs3, hf3, hb3⟩
            obtain ⟨⟨q1, q2, q3, q4, q5, q6, q7, q8⟩, hgf, hpo⟩ := HP2.out.withF (c2 := c3) (rc2 := rcc) hs3 hf3 hb3 (show SR w ra (takesF q ns rl st').recipe from HRK0.out.rc)
            have HGF := hide hgf
            have HPO := hide hpo
            clear hgf hpo hs3 hf3 hb3
            go_wp2
            refine bodyPost_ret (ret_rplan HGF.out rfl) rfl ?_
            rw [HE.out]
            exact HPO.out
        · obtain rfl : j = k := by omega
          have htf : M.take j = M := List.take_of_length_le (by have := HN.out; omega)
          have hfn := HFN.out
          rw [htf] at hfn
          have hr5 := HR4.out
          rw [hfn] at hr5
          have HR5 := hide hr5
          have hokw := HOK.out wi HBJ.out
          have HSS := hide (rspecial_any mac A c M suffixes wi hokw.rl hokw.ml hokw.tgz (fun x => by
            have := special_len_take M suffixes x
            have := HSN.out suffixes
            omega))
          have HLZ := hide (show ∀ s ∈ specialR M suffixes, s.size ≤ 10000 from fun s hs => by
            obtain ⟨r, hr, hx⟩ := mem_special hs
            exact hokw.nz r hr s hx)
          have HLL := hide (HSN.out suffixes)
          obtain ⟨sl, hsl⟩ : ∃ l, specialR M suffixes = l := ⟨_, rfl⟩
          rw [hsl] at HSS HLZ HLL HR5
          rw [HN.out] at HSS
          unfold suffixes at HSS
          clear htf hfn hr5 hokw hsl HFN
          go_wp2_with fail
          refine HSS.out.mono ?_
          rintro e ws ⟨⟨v, rfl, ho⟩, hbs⟩
          obtain ⟨lA, lc, rfl, _, hls, _⟩ := ho.slice
          have HPS := hide (HPJ.out.step hbs)
          have HLS := hide hls
          obtain ⟨ln, hln⟩ : ∃ n, sl.length = n := ⟨_, rfl⟩
          rw [hln]
          have HLN := hide hln
          clear ho hbs hls hln hmm0 hmm1
          go_wp2
          go_loopw [19, 20, 21, 22, 23] (fun v19 _ _ _ _ wr => ∃ i : Nat, v19 = .int .i64 i ∧ i ≤ j ∧ Hid (firstO (suf1 S cwd (knownsF M) target sl q) (M.take i) = none) ∧ PI w w.heap.size g8 gp mk q Ax cx rA rc wr ∧ SR wr lA sl) (fun v19 _ _ _ _ _ => j - (intOf v19).toNat)
          case atStart => exact ⟨0, rfl, by omega, hide rfl, HPS.out, HLS.out⟩
          case round =>
            obtain ⟨wz, hwz⟩ : ∃ Z, Z = wr := ⟨_, rfl⟩
            subst hwz
            obtain ⟨i, rfl, hi, HFN, hpi, hsl⟩ := hrel
            have HPI2 := hide hpi
            have HSL := hide hsl
            have hmm0 : wz.cell? ⟨w.heap.size, 0, none⟩ = some mac := cellOf' hpi.mk_ (j := 0) (by rw [← HMK.out]; rfl)
            have hmm1 : wz.cell? ⟨w.heap.size, 1, none⟩ = some (.slice A j c) := cellOf' hpi.mk_ (j := 1) (by rw [← HMK.out]; rfl)
            have HBI := hide hpi.below
            clear hpi hsl
            by_cases hlt : i < j
            · obtain ⟨r, hr⟩ : ∃ r, M[i]? = some r := ⟨M[i]'(by have := HN.out; omega), List.getElem?_eq_getElem _⟩
              have hmem := List.mem_of_getElem? hr
              have hokw := HOK.out wz HBI.out
              have HRK0 := hide ((HOK.out w (Below.refl _ _)).rl.2 _ hmem)
              have HFT := hide (fun Z (hb : Below w.heap.size w Z) (hb2 : Below wz.heap.size wz Z) => rsuffix_any mac A c M g S cwd target r lA lc sl Z (HOK.out Z hb) ((HOK.out Z hb).rl.2 _ hmem) hmem ht (HSL.out.below hb2) HLL.out HLZ.out)
              have hst := fun (h : suf1 S cwd (knownsF M) target sl q r = none) => firstO_step (suf1 S cwd (knownsF M) target sl q) M i r HFN.out hr h
              have hfo := fun b (h : suf1 S cwd (knownsF M) target sl q r = some b) => firstO_found (suf1 S cwd (knownsF M) target sl q) M i r b HFN.out hr h
              have hpa : suf1 S cwd (knownsF M) target sl q r = (sufF S cwd (knownsF M) target sl r).map fun x => takesF q [bs x.1] r.rc.2.2 x.2 := suf1_eq _ _ _ _ _ _ _
              obtain ⟨gz, oz, eA, hgz, hc⟩ := hokw.rl.1 i _ hr
              obtain ⟨⟨ta, tc, tl⟩, ⟨na, nc, nl⟩, ⟨ra, rcc, rl⟩⟩ := r
              have c0 : wz.cell? ⟨gz, oz + i * 3, none⟩ = some (.slice ta tl.length tc) := by have := hc 0 _ rfl; simpa [sv] using this
              have c1 : wz.cell? ⟨gz, oz + i * 3 + 1, none⟩ = some (.slice na nl.length nc) := hc 1 _ rfl
              have c2 : wz.cell? ⟨gz, oz + i * 3 + 2, none⟩ = some (.slice ra rl.length rcc) := hc 2 _ rfl
              have b1 : (i : Int) < (j : Int) := by omega
              obtain ⟨FQ, hFQ⟩ : ∃ x, sufF S cwd (knownsF M) target sl ⟨(ta, tc, tl), (na, nc, nl), (ra, rcc, rl)⟩ = x := ⟨_, rfl⟩
              rw [hFQ] at HFT hpa
              unfold sv at HFT
              simp only at HFT
              dsimp only at hpa
              obtain ⟨tn, htn⟩ : ∃ n, tl.length = n := ⟨_, rfl⟩
              obtain ⟨m, hm⟩ : ∃ n, nl.length = n := ⟨_, rfl⟩
              obtain ⟨u, hu⟩ : ∃ n, rl.length = n := ⟨_, rfl⟩
              have hnk := HN.out
              rw [htn] at c0 HFT
              rw [hm] at c1 HFT
              rw [hu] at c2 HFT
              rw [hnk, HLN.out] at HFT
              have HU := hide hu
              have HPA := hide hpa
              have HST := hide hst
              have HFO := hide hfo
              have hB1 := (Below.refl wz.heap.size wz).alloc (Nat.le_refl _) (.cells #[.slice ta tn tc, .slice na m nc, .slice ra u rcc] 63)
              have hN1 := heapNew wz (.cells #[.slice ta tn tc, .slice na m nc, .slice ra u rcc] 63)
              obtain ⟨gr, hgr⟩ : ∃ k, wz.heap.size = k := ⟨_, rfl⟩
              rw [hgr] at hN1
              have HB1 := hide hB1
              have HN1 := hide hN1
              have HPW := hide (HPI2.out.step hB1)
              have hmx0 := (hB1.cell (p := ⟨w.heap.size, 0, none⟩) (World.block_lt_of_cell? _ _ hmm0)).trans hmm0
              have hmx1 := (hB1.cell (p := ⟨w.heap.size, 1, none⟩) (World.block_lt_of_cell? _ _ hmm1)).trans hmm1
              rw [eA] at hmm1 hmx1 HFT ⊢
              clear hr hmem hokw hc hFQ htn hm hu hB1 hN1 hst hfo hpa hnk
              go_wp2_with fail
              refine (HFT.out _ HPW.out.below HB1.out).mono ?_
              rintro e w1 ⟨hb1, fa, fb, rfl, hsome⟩
              have HP1 := hide (HPW.out.step hb1)
              have HSL1 := hide ((HSL.out.below HB1.out).below hb1)
              have hnr1 := (hb1.block gr (Array.getElem?_eq_some_iff.1 HN1.out).1).trans HN1.out
              have d2 := cellOf' hnr1 (j := 2) rfl
              have HSM := hide hsome
              obtain ⟨okb, hokb⟩ : ∃ b, FQ.isSome = b := ⟨_, rfl⟩
              rw [hokb]
              have HOKB := hide hokb
              clear hokb hb1 hsome hmm0 hmm1 hmx0 hmx1 c0 c1 c2
              cases okb with
              | false =>
                have hq0 : FQ = none := by have := HOKB.out; cases FQ with | none => rfl | some x => cases this
                have hpb := HPA.out
                rw [hq0] at hpb
                have HE := hide (HST.out hpb)
                clear hpb d2 hnr1
                go_wp2
                go_roundw
                case rel => exact ⟨i + 1, by go_num, by omega, HE, HP1.out, HSL1.out⟩
                case measure => simp [intOf]; omega
              | true =>
                obtain ⟨⟨nd, st'⟩, hfq⟩ : ∃ fq, FQ = some fq := by have := HOKB.out; cases FQ with | none => cases this | some x => exact ⟨x, rfl⟩
                subst hfq
                obtain ⟨hst1, hst2⟩ := HSM.out _ rfl
                dsimp only at hst1 hst2
                subst hst1 hst2
                have hfb := HFO.out _ HPA.out
                have hrr := HR5.out
                rw [hfb] at hrr
                have HE := hide (show R = takesF q [bs nd] rl st' from hrr)
                have hba := (Below.refl w1.heap.size w1).alloc (Nat.le_refl _) (.cells #[.string (bs nd)] 9)
                have HPX := hide (HP1.out.step hba)
                have d3 := cellOf' ((hba.block gr (Array.getElem?_eq_some_iff.1 hnr1).1).trans hnr1) (j := 2) rfl
                have HWI := hide (rwith_any q Ax cx rA rc (some ⟨w1.heap.size, 0, none⟩) 1 [bs nd] ra rcc rl st' _ HPX.out.needs (sr_new w1 (bs nd)) (HRK0.out.rc.below HPX.out.below) (by have := HQL.out; simp; omega))
                rw [HU.out, h0, List.length_singleton] at HWI
                have hpl1 := HP1.out.plan
                have m0 := cellOf hpl1 (j := 0) rfl
                have m1 := cellOf hpl1 (j := 1) rfl
                have m2 := cellOf hpl1 (j := 2) rfl
                have m3 := cellOf hpl1 (j := 3) rfl
                unfold WithPost at HWI
                clear hfb hrr hpl1 hba hnr1
                go_wp2_with fail
                refine HWI.out.mono ?_
                rintro e w3 ⟨A3, c3, rfl, hs3, hf3, hb3⟩
                obtain ⟨⟨q1, q2, q3, q4, q5, q6, q7, q8⟩, hgf, hpo⟩ := HPX.out.withF (c2 := c3) (rc2 := rcc) hs3 hf3 hb3 (show SR w ra (takesF q [bs nd] rl st').recipe from HRK0.out.rc)
                have HGF := hide hgf
                have HPO := hide hpo
                clear hgf hpo hs3 hf3 hb3
                go_wp2
                refine bodyPost_ret (ret_rplan HGF.out rfl) rfl ?_
                rw [HE.out]
                exact HPO.out
            · obtain rfl : i = j := by omega
              have htf : M.take i = M := List.take_of_length_le (by have := HN.out; omega)
              have hfn := HFN.out
              rw [htf] at hfn
              have hr6 := HR5.out
              rw [hfn] at hr6
              have HE := hide (show R = q from hr6)
              obtain ⟨⟨m0, m1, m2, m3⟩, ⟨q1, q2, q3, q4, q5, q6, q7, q8⟩, hgf, hpo⟩ := PI.fin HPI2.out
              have HGF := hide hgf
              have HPO := hide hpo
              clear hgf hpo htf hfn hr6 h0
              go_wp2
              refine bodyPost_ret (ret_rplan HGF.out rfl) rfl ?_
              rw [HE.out]
              exact HPO.out
end Go.Proofs.YtaajofojbhdgaaaGreatDoor
/- Walk of the reference's Behind. -/
namespace Go.Proofs.YtaajofojbhdgaaaGreatDoor
open Go.RowKit Go.Deep Go.Maps Ln Pth Vf
set_option linter.unusedSimpArgs false
set_option linter.unusedVariables false
attribute [local go_sem] bt_eq

set_option maxRecDepth 100000 in
set_option maxHeartbeats 16000000 in
theorem rbehind18_any (mac : Value) (A : Option Addr) (ml c : Nat) (g0 : Nat) (cwd : ByteArray) (P : ByteArray → Pn) (sA : Option Addr) (sc : Nat) (L : List Stp) (w : World) (hS : STP w sA L) (hl : L.length ≤ 100000)
    (hP : ∀ s ∈ L, ∀ Z, Below w.heap.size w Z → Calls Tryz.prog 21 #[.agg #[mac, .slice A ml c], .pointer (some ⟨g0, 0, none⟩), .string cwd, .string s.t] Z (RPlanPost Z (P s.t)))
    (hn : ∀ s ∈ L, (P s.t).needs.length ≤ 100000) :
    Calls Tryz.prog 17 #[.agg #[mac, .slice A ml c], .pointer (some ⟨g0, 0, none⟩), .string cwd, .slice sA L.length sc] w fun e w' => e = .returned (.bool (behindF (fun x => (P x).needs) L)) ∧ Below w.heap.size w w' := by
  have HS := hide hS
  have HPL := hide hP
  have HND := hide hn
  obtain ⟨n, hln⟩ : ∃ n, L.length = n := ⟨_, rfl⟩
  have HN := hide hln
  obtain ⟨R, hR⟩ : ∃ R, behindF (fun x => (P x).needs) L = R := ⟨_, rfl⟩
  have HR := hide (show bOut (fun x => (P x).needs) L 0 (L.drop 0) = R by rw [← hR]; rfl)
  rw [hln] at hl ⊢
  rw [hR]
  have hn1 : (n : Int) ≤ 100000 := by omega
  have HB0 := hide ((Below.refl w.heap.size w).alloc (Nat.le_refl _) (.cells #[mac, .slice A ml c] 25))
  have HG0 := hide (heapNew w (.cells #[mac, .slice A ml c] 25))
  clear hS hP hn hln hR
  go_enter Tryz.func17, Tryz.ntmps17
  go_wp2
  generalize w.alloc (.cells #[mac, .slice A ml c] 25) = W at HB0 HG0 ⊢
  go_loopw [9, 10, 11] (fun v9 _ _ wr => ∃ i : Nat, v9 = .int .i64 i ∧ i ≤ n ∧ Hid (bOut (fun x => (P x).needs) L i (L.drop i) = R) ∧ Below w.heap.size w wr ∧ wr.heap[w.heap.size]? = some (.cells #[mac, .slice A ml c] 25)) (fun v9 _ _ _ => n - (intOf v9).toNat)
  case atStart => exact ⟨0, rfl, by omega, HR, HB0.out, HG0.out⟩
  case round =>
    obtain ⟨wo, hwo⟩ : ∃ Z, Z = wr := ⟨_, rfl⟩
    subst hwo
    obtain ⟨i, rfl, hi, HBO, hbw, hgm⟩ := hrel
    have HBW := hide hbw
    have HGM := hide hgm
    have HAR := hide (HS.out.below hbw)
    by_cases hli : i < n
    case neg =>
      obtain rfl : i = n := by omega
      have HE := hide (show R = true by rw [← HBO.out, bOut_end (by have := HN.out; omega)])
      go_wp2
      go_ret
      rw [HE.out]
      exact ⟨rfl, HBW.out⟩
    obtain ⟨s, hx⟩ : ∃ x, L[i]? = some x := ⟨L[i]'(by have := HN.out; omega), List.getElem?_eq_getElem _⟩
    obtain ⟨g, o, rfl, hg, c0, c1⟩ := HAR.out.at hx
    have hmem := List.mem_of_getElem? hx
    have hbo := bOut_at (N := fun x => (P x).needs) hx
    rw [HBO.out] at hbo
    have hnl := HND.out s hmem
    have HPX := hide (HPL.out s hmem)
    obtain ⟨st, hst⟩ : ∃ z, s.t = z := ⟨_, rfl⟩
    obtain ⟨sw, hsw⟩ : ∃ z, s.what = z := ⟨_, rfl⟩
    rw [hst] at c0 hbo hnl HPX
    rw [hsw] at c1
    obtain ⟨Q, hQ⟩ : ∃ q, P st = q := ⟨_, rfl⟩
    rw [hQ] at hbo hnl HPX
    have HSW := hide hsw
    have HBI := hide hbo
    have bi : (i : Int) < (n : Int) := by omega
    have hlw := (Array.getElem?_eq_some_iff.1 hgm).1
    have m0 := cellOf hgm (j := 0) rfl
    have m1 := cellOf hgm (j := 1) rfl
    have HQ := hide (fun (Z : World) (hb : Below wo.heap.size wo Z) => show (fun Z => Z.cell? ⟨w.heap.size, 0, none⟩ = some mac ∧ Z.cell? ⟨w.heap.size, 1, none⟩ = some (.slice A ml c) ∧ Z.cell? ⟨g, o + i * 2, none⟩ = some (.string st)) Z from ⟨(hb.cell (p := ⟨w.heap.size, 0, none⟩) hlw).trans m0, (hb.cell (p := ⟨w.heap.size, 1, none⟩) hlw).trans m1, (hb.cell (p := ⟨g, o + i * 2, none⟩) hg).trans c0⟩)
    have HD0 := hide (hbw.drew)
    have HC1 := hide c1
    clear hx hmem hbo hst hsw hgm hbw hQ m0 m1 c0 c1
    go_upto_region 4 with (fail)
    go_cut [10] from 18 to 26 (fun v10 w' => ∃ (gp : Nat) (An : Option Addr) (cn : Nat) (rA : Option Addr) (rc : Nat), v10 = .pointer (some ⟨gp, 0, none⟩) ∧ w'.heap[gp]? = some (.cells #[.slice An Q.needs.length cn, .slice rA Q.recipe.length rc, .string (bs Q.stem), .bool Q.rule] 49) ∧ SR w' An Q.needs ∧ Below wo.heap.size wo w' ∧ wo.heap.size ≤ gp)
    case first =>
      refine wp_region_held_drew (S := (fun Z => Z.cell? ⟨w.heap.size, 0, none⟩ = some mac ∧ Z.cell? ⟨w.heap.size, 1, none⟩ = some (.slice A ml c) ∧ Z.cell? ⟨g, o + i * 2, none⟩ = some (.string st))) (by kernel_rfl) (HQ.out _ (Below.refl _ _).drew) (fun hHeld => ?_)
      refine wpAnyH_tk (i := 0) (oi := _) (v := ?v0) rfl rfl (by kernel_rfl) (by kernel_rfl) (by kernel_rfl) (fun _ _ _ h => h) (Or.inl ⟨by kernel_rfl, ?y0⟩) (by assumption) ?r0
      case y0 =>
        intro w hSw
        (try dsimp only at hSw)
        go_simp
        try with_reducible rfl
      try simp only [List.setIfInBounds_toArray, List.set_cons_zero, List.set_cons_succ]
      refine wpAnyH_tk (i := 1) (oi := _) (v := ?v1) rfl rfl (by kernel_rfl) (by kernel_rfl) (by kernel_rfl) (fun _ _ _ h => h) (Or.inl ⟨by kernel_rfl, ?y1⟩) (by assumption) ?r1
      case y1 =>
        intro w hSw
        (try dsimp only at hSw)
        go_simp
        try with_reducible rfl
      try simp only [List.setIfInBounds_toArray, List.set_cons_zero, List.set_cons_succ]
      refine wpAnyH_tk (i := 2) (oi := _) (v := ?v2) rfl rfl (by kernel_rfl) (by kernel_rfl) (by kernel_rfl) (fun _ _ _ h => h) (Or.inl ⟨by kernel_rfl, ?y2⟩) (by assumption) ?r2
      case y2 =>
        intro w hSw
        (try dsimp only at hSw)
        go_simp
        try with_reducible rfl
      try simp only [List.setIfInBounds_toArray, List.set_cons_zero, List.set_cons_succ]
      refine wpAnyH_tk (i := 3) (oi := _) (v := ?v3) rfl rfl (by kernel_rfl) (by kernel_rfl) (by kernel_rfl) (fun _ _ _ h => h) (Or.inl ⟨by kernel_rfl, ?y3⟩) (by assumption) ?r3
      case y3 =>
        intro w hSw
        (try dsimp only at hSw)
        go_simp
        try with_reducible rfl
      try simp only [List.setIfInBounds_toArray, List.set_cons_zero, List.set_cons_succ]
      refine wpAnyH_tk (i := 4) (oi := _) (v := ?v4) rfl rfl (by kernel_rfl) (by kernel_rfl) (by kernel_rfl) (fun _ _ _ h => h) (Or.inl ⟨by kernel_rfl, ?y4⟩) (by assumption) ?r4
      case y4 =>
        intro w hSw
        (try dsimp only at hSw)
        go_simp
        try with_reducible rfl
      try simp only [List.setIfInBounds_toArray, List.set_cons_zero, List.set_cons_succ]
      refine wpAnyH_tk (i := 5) (oi := _) (v := ?v5) rfl rfl (by kernel_rfl) (by kernel_rfl) (by kernel_rfl) (fun _ _ _ h => h) (Or.inl ⟨by kernel_rfl, ?y5⟩) (by assumption) ?r5
      case y5 =>
        intro w hSw
        (try dsimp only at hSw)
        go_simp
        try with_reducible rfl
      try simp only [List.setIfInBounds_toArray, List.set_cons_zero, List.set_cons_succ]
      refine wpAnyH_tk (i := 6) (oi := _) (v := ?v6) rfl rfl (by kernel_rfl) (by kernel_rfl) (by kernel_rfl) (fun _ _ _ h => h) (Or.inl ⟨by kernel_rfl, ?y6⟩) (by assumption) ?r6
      case y6 =>
        intro w hSw
        (try dsimp only at hSw)
        go_simp
        try with_reducible rfl
      try simp only [List.setIfInBounds_toArray, List.set_cons_zero, List.set_cons_succ]
      refine wpAnyH_tk (i := 7) (oi := _) (v := ?v7) rfl rfl (by kernel_rfl) (by kernel_rfl) (by kernel_rfl) (fun _ _ _ h => h) (Or.inl ⟨by kernel_rfl, ?y7⟩) (by assumption) ?r7
      case y7 =>
        intro w hSw
        (try dsimp only at hSw)
        go_simp
        try with_reducible rfl
      try simp only [List.setIfInBounds_toArray, List.set_cons_zero, List.set_cons_succ]

      refine wpAnyH_ready (rs := [8, 9]) (by kernel_rfl) (by simp) ?_
      refine AllReadyH.cons (o := _) rfl (fun K hK => ?way1) (AllReadyH.cons (o := _) rfl (fun K hK => ?way2) AllReadyH.nil)
      case way1 =>
        rw [if_pos (by kernel_rfl)]
        go_simp
        refine (HPX.out _ HD0.out).mono ?_
        rintro e w2 ⟨An, cn, rA, rc, rfl, hsn, _, hfr, hb2⟩
        have HSN := hide hsn
        have HFR := hide hfr
        have HBP := hide ((Below.refl wo.heap.size wo).drew.trans hb2)
        clear hsn hb2 hfr
        refine hK.out _ _ (HQ.out _ HBP.out) (fun _ => ?_)
        clear hK K
        try simp only [Act.put, List.setIfInBounds_toArray, List.set_cons_zero, List.set_cons_succ]
        refine wpAnyH_ready (rs := [9]) (by kernel_rfl) (by simp) ?_
        refine AllReadyH.cons (o := _) rfl (fun K hK => ?_) AllReadyH.nil
        rw [if_pos (by kernel_rfl)]
        go_simp
        refine hK.out _ _ (HQ.out _ (HBP.out.alloc HBP.out.size _)) (fun _ => ?_)
        clear hK K
        try simp only [Act.put, List.setIfInBounds_toArray, List.set_cons_zero, List.set_cons_succ]
        refine wpAnyH_ready (rs := [10]) (by kernel_rfl) (by simp) ?_
        refine AllReadyH.cons (o := _) rfl (fun K hK => ?_) AllReadyH.nil
        rw [if_pos (by kernel_rfl)]
        go_simp
        refine hK.out _ _ (HQ.out _ (HBP.out.alloc HBP.out.size _)) (fun _ => ?_)
        clear hK K
        try simp only [Act.put, List.setIfInBounds_toArray, List.set_cons_zero, List.set_cons_succ]
        refine wpAnyH_done (by kernel_rfl) ?_ _

        go_wp2
        go_meet
        refine ⟨w2.heap.size, An, cn, rA, rc, rfl, heapNew _ _, HSN.out.below ((Below.refl _ _).alloc (Nat.le_refl _) _), HBP.out.alloc HBP.out.size _, HBP.out.size⟩
      case way2 =>
        have HBZ := hide ((Below.refl wo.heap.size wo).drew.alloc (Nat.le_refl _) (.cells #[.slice none 0 0, .slice none 0 0, .string ⟨#[]⟩, .bool false] 49))
        have HNZ := hide (heapNew wo.drew (.cells #[.slice none 0 0, .slice none 0 0, .string ⟨#[]⟩, .bool false] 49))
        have HD1 := hide (HD0.out.alloc (by have := HD0.out.size; exact this) (.cells #[.slice none 0 0, .slice none 0 0, .string ⟨#[]⟩, .bool false] 49))
        rw [if_pos (by kernel_rfl)]
        go_simp
        refine hK.out _ _ (HQ.out _ HBZ.out) (fun _ => ?_)
        clear hK K
        try simp only [Act.put, List.setIfInBounds_toArray, List.set_cons_zero, List.set_cons_succ]
        refine wpAnyH_ready (rs := [8]) (by kernel_rfl) (by simp) ?_
        refine AllReadyH.cons (o := _) rfl (fun K hK => ?_) AllReadyH.nil
        rw [if_pos (by kernel_rfl)]
        go_simp
        refine (HPX.out _ HD1.out).mono ?_
        rintro e w2 ⟨An, cn, rA, rc, rfl, hsn, _, hfr, hb2⟩
        have HSN := hide hsn
        have HFR := hide hfr
        have hz2 := (hb2.block wo.heap.size (by simp)).trans HNZ.out
        have HBP := hide (HBZ.out.trans (hb2.mono (by simp)))
        obtain ⟨⟨q1, q2, q3, q4, q5, q6, q7, q8⟩, hgf, hkp⟩ := store4 hz2 (.slice An Q.needs.length cn) (.slice rA Q.recipe.length rc) (.string (bs Q.stem)) (.bool Q.rule)
        have HGF := hide hgf
        have HKP := hide hkp
        have HQ3 := hide (HQ.out _ (hkp.below HBP.out (Nat.le_refl _) (fun k e => by omega)))
        clear hsn hb2 hfr hgf hkp hz2
        refine hK.out _ _ (HQ.out _ HBP.out) (fun _ => ?_)
        clear hK K
        try simp only [Act.put, List.setIfInBounds_toArray, List.set_cons_zero, List.set_cons_succ]
        refine wpAnyH_ready (rs := [10]) (by kernel_rfl) (by simp) ?_
        refine AllReadyH.cons (o := _) rfl (fun K hK => ?_) AllReadyH.nil
        rw [if_pos (by kernel_rfl)]
        go_simp
        refine hK.out _ _ HQ3.out (fun _ => ?_)
        clear hK K
        try simp only [Act.put, List.setIfInBounds_toArray, List.set_cons_zero, List.set_cons_succ]
        refine wpAnyH_done (by kernel_rfl) ?_ _

        go_wp2
        go_meet
        refine ⟨wo.heap.size, An, cn, rA, rc, rfl, HGF.out, HKP.out.sr HSN.out (fun a e h => ?_), HKP.out.below HBP.out (Nat.le_refl _) (fun k e => by omega), Nat.le_refl _⟩
        have := HFR.out a e h
        simp at this
        omega
    case rest =>
    obtain ⟨gp, An, cn, rA, rc, rfl, hgp, hsn, hb2, hgp2⟩ := hcut
    have HGP := hide hgp
    have HSN := hide hsn
    have HB2 := hide (below_up HBW.out hb2 HBW.out.size)
    have HBO2 := hide hb2
    have HGM2 := hide ((hb2.block w.heap.size hlw).trans HGM.out)
    obtain ⟨m, hm⟩ : ∃ m, Q.needs.length = m := ⟨_, rfl⟩
    rw [hm] at hnl HGP
    have HMM := hide hm
    have hmi : (m : Int) ≤ 100000 := by omega
    have hgpl := (Array.getElem?_eq_some_iff.1 hgp).1
    have HI0 := hide (show (bIn Q.needs i s 0 (L.drop 0) && bOut (fun x => (P x).needs) L (i + 1) (L.drop (i + 1))) = R from HBI.out.symm)
    clear hgp hsn hb2 hm
    go_wp2
    go_loopw [11] (fun v11 wr => ∃ k : Nat, v11 = .int .i64 k ∧ k ≤ n ∧ Hid ((bIn Q.needs i s k (L.drop k) && bOut (fun x => (P x).needs) L (i + 1) (L.drop (i + 1))) = R) ∧ Below wc.heap.size wc wr) (fun v11 _ => n - (intOf v11).toNat)
    case atStart => exact ⟨0, rfl, by omega, HI0.out, Below.refl _ _⟩
    case round =>
      obtain ⟨wk, hwk⟩ : ∃ Z, Z = wr := ⟨_, rfl⟩
      subst hwk
      obtain ⟨k, rfl, hk, HIK, hbk⟩ := hrel
      have HBK := hide hbk
      have HBKW := hide (below_up HB2.out hbk HB2.out.size)
      have HAK := hide (HS.out.below HBKW.out)
      have HSNK := hide (HSN.out.below hbk)
      have hgpk := (hbk.block gp hgpl).trans HGP.out
      have p0 := cellOf hgpk (j := 0) rfl
      by_cases hlk : k < n
      case neg =>
        obtain rfl : k = n := by omega
        have HE := hide (show bOut (fun x => (P x).needs) L (i + 1) (L.drop (i + 1)) = R by rw [← HIK.out, bIn_end (by have := HN.out; omega), Bool.true_and])
        have HGM3 := hide ((hbk.block w.heap.size (Array.getElem?_eq_some_iff.1 HGM2.out).1).trans HGM2.out)
        go_wp2
        go_roundw
        case rel => exact ⟨i + 1, by go_num, by omega, HE, HBKW.out, HGM3.out⟩
        case measure => simp [intOf]; omega
      obtain ⟨x, hx⟩ : ∃ x, L[k]? = some x := ⟨L[k]'(by have := HN.out; omega), List.getElem?_eq_getElem _⟩
      obtain ⟨gk, ok, eA, hgk, c0, c1⟩ := HAK.out.at hx
      injection eA with eA
      injection eA with e1 e2
      subst e1 e2
      have s1 := ((below_up HBO2.out hbk HBO2.out.size).cell (p := ⟨g, o + i * 2 + 1, none⟩) hg).trans HC1.out
      have hat := bIn_at (needs := Q.needs) (i := i) (s := s) hx
      have hik := HIK.out
      rw [hat, Bool.and_assoc] at hik
      have bk1 : (k : Int) < (n : Int) := by omega
      obtain ⟨xt, hxt⟩ : ∃ z, x.t = z := ⟨_, rfl⟩
      obtain ⟨xw, hxw⟩ : ∃ z, x.what = z := ⟨_, rfl⟩
      rw [hxt] at c0
      rw [hxw] at c1
      obtain ⟨q, hq⟩ : ∃ q, Lib.containsS Q.needs xt = q := ⟨_, rfl⟩
      obtain ⟨bk, hbk2⟩ : ∃ q, decide (i ≤ k) = q := ⟨_, rfl⟩
      obtain ⟨b3, h3⟩ : ∃ q, (xw == 3) = q := ⟨_, rfl⟩
      obtain ⟨b4, h4⟩ : ∃ q, (xw == 4) = q := ⟨_, rfl⟩
      obtain ⟨b1, h1⟩ : ∃ q, (sw == 1) = q := ⟨_, rfl⟩
      obtain ⟨b2, h2⟩ : ∃ q, (sw == 2) = q := ⟨_, rfl⟩
      have hok := okAt_eq (q := q) (bk := bk) (b1 := b1) (b2 := b2) (b3 := b3) (b4 := b4) Q.needs i s k x (by rw [hxt]; exact hq) hbk2 (by rw [hxw]; exact h3) (by rw [hxw]; exact h4) (by rw [HSW.out]; exact h1) (by rw [HSW.out]; exact h2)
      rw [hok] at hik
      have HIN := hide hik
      have hki : decide ((k : Int) ≥ (i : Int)) = bk := by rw [← hbk2]; by_cases h : i ≤ k <;> simp [h]
      have HHS := hide (fun Z (hb : Below wk.heap.size wk Z) => rhas_any An cn Q.needs xt Z (HSNK.out.below hb) (by have := HMM.out; omega))
      rw [HMM.out] at HHS
      rw [hq] at HHS
      have HQ2 := hide (fun (Z : World) (hb : Below wk.heap.size wk Z) => show (fun Z => Z.cell? ⟨gp, 0, none⟩ = some (.slice An m cn) ∧ Z.cell? ⟨g, o + k * 2, none⟩ = some (.string xt)) Z from ⟨(hb.cell (p := ⟨gp, 0, none⟩) (World.block_lt_of_cell? _ _ p0)).trans p0, (hb.cell (p := ⟨g, o + k * 2, none⟩) (World.block_lt_of_cell? _ _ c0)).trans c0⟩)
      have HBD := hide (hbk.drew)
      clear hx hat hik hok hq hxt hxw hgpk hbk
      cases q with
      | false =>
        have HE := hide (show (bIn Q.needs i s (k + 1) (L.drop (k + 1)) && bOut (fun x => (P x).needs) L (i + 1) (L.drop (i + 1))) = R by rw [← HIN.out]; simp)
        go_wp2_with fail
        refine wp_region_held_drew (S := (fun Z => Z.cell? ⟨gp, 0, none⟩ = some (.slice An m cn) ∧ Z.cell? ⟨g, o + k * 2, none⟩ = some (.string xt))) (by kernel_rfl) (HQ2.out _ (Below.refl _ _).drew) (fun hHeld => ?_)
        refine wpAnyH_tk (i := 0) (oi := _) (v := ?vB0) rfl rfl (by kernel_rfl) (by kernel_rfl) (by kernel_rfl) (fun _ _ _ h => h) (Or.inl ⟨by kernel_rfl, ?yB0⟩) (by assumption) ?rB0
        case yB0 =>
          intro w hSw
          (try dsimp only at hSw)
          go_simp
          try with_reducible rfl
        try simp only [List.setIfInBounds_toArray, List.set_cons_zero, List.set_cons_succ]
        refine wpAnyH_tk (i := 1) (oi := _) (v := ?vB1) rfl rfl (by kernel_rfl) (by kernel_rfl) (by kernel_rfl) (fun _ _ _ h => h) (Or.inl ⟨by kernel_rfl, ?yB1⟩) (by assumption) ?rB1
        case yB1 =>
          intro w hSw
          (try dsimp only at hSw)
          go_simp
          try with_reducible rfl
        try simp only [List.setIfInBounds_toArray, List.set_cons_zero, List.set_cons_succ]
        refine wpAnyH_tk (i := 2) (oi := _) (v := ?vB2) rfl rfl (by kernel_rfl) (by kernel_rfl) (by kernel_rfl) (fun _ _ _ h => h) (Or.inl ⟨by kernel_rfl, ?yB2⟩) (by assumption) ?rB2
        case yB2 =>
          intro w hSw
          (try dsimp only at hSw)
          go_simp
          try with_reducible rfl
        try simp only [List.setIfInBounds_toArray, List.set_cons_zero, List.set_cons_succ]
        refine wpAnyH_tk (i := 3) (oi := _) (v := ?vB3) rfl rfl (by kernel_rfl) (by kernel_rfl) (by kernel_rfl) (fun _ _ _ h => h) (Or.inl ⟨by kernel_rfl, ?yB3⟩) (by assumption) ?rB3
        case yB3 =>
          intro w hSw
          (try dsimp only at hSw)
          go_simp
          try with_reducible rfl
        try simp only [List.setIfInBounds_toArray, List.set_cons_zero, List.set_cons_succ]
        refine wpAnyH_tk (i := 4) (oi := _) (v := ?vB4) rfl rfl (by kernel_rfl) (by kernel_rfl) (by kernel_rfl) (fun _ _ _ h => h) (Or.inl ⟨by kernel_rfl, ?yB4⟩) (by assumption) ?rB4
        case yB4 =>
          intro w hSw
          (try dsimp only at hSw)
          go_simp
          try with_reducible rfl
        try simp only [List.setIfInBounds_toArray, List.set_cons_zero, List.set_cons_succ]
        refine wpAnyH_tk (i := 5) (oi := _) (v := ?vB5) rfl rfl (by kernel_rfl) (by kernel_rfl) (by kernel_rfl) (fun _ _ _ h => h) (Or.inl ⟨by kernel_rfl, ?yB5⟩) (by assumption) ?rB5
        case yB5 =>
          intro w hSw
          (try dsimp only at hSw)
          go_simp
          try with_reducible rfl
        try simp only [List.setIfInBounds_toArray, List.set_cons_zero, List.set_cons_succ]
        refine wpAnyH_tk (i := 6) (oi := _) (v := ?vB6) rfl rfl (by kernel_rfl) (by kernel_rfl) (by kernel_rfl) (fun _ _ _ h => h) (Or.inl ⟨by kernel_rfl, ?yB6⟩) (by assumption) ?rB6
        case yB6 =>
          intro w hSw
          (try dsimp only at hSw)
          go_simp
          try with_reducible rfl
        try simp only [List.setIfInBounds_toArray, List.set_cons_zero, List.set_cons_succ]
        refine wpAnyH_ready (rs := [7]) (by kernel_rfl) (by simp) ?_
        refine AllReadyH.cons (o := _) rfl (fun K hK => ?_) AllReadyH.nil
        rw [if_pos (by kernel_rfl)]
        go_simp
        refine (HHS.out _ (Below.refl _ _).drew).mono ?_
        rintro e w' ⟨rfl, rfl⟩
        refine hK.out _ _ (HQ2.out _ (Below.refl _ _).drew) (fun _ => ?_)
        clear hK K
        try simp only [Act.put, List.setIfInBounds_toArray, List.set_cons_zero, List.set_cons_succ]
        refine wpAnyH_tk (i := 8) (oi := _) (v := ?vB8) rfl rfl (by kernel_rfl) (by kernel_rfl) (by kernel_rfl) (fun _ _ _ h => h) (Or.inl ⟨by kernel_rfl, ?yB8⟩) (by assumption) ?rB8
        case yB8 =>
          intro w hSw
          (try dsimp only at hSw)
          go_simp
          try with_reducible rfl
        try simp only [List.setIfInBounds_toArray, List.set_cons_zero, List.set_cons_succ]
        refine wpAnyH_done (by kernel_rfl) ?_ _
        go_wp2
        go_roundw
        case rel => exact ⟨k + 1, by go_num, by omega, HE, HBD.out⟩
        case measure => simp [intOf]; omega
      | true =>
        go_wp2_with fail
        refine wp_region_held_drew (S := (fun Z => Z.cell? ⟨gp, 0, none⟩ = some (.slice An m cn) ∧ Z.cell? ⟨g, o + k * 2, none⟩ = some (.string xt))) (by kernel_rfl) (HQ2.out _ (Below.refl _ _).drew) (fun hHeld => ?_)
        refine wpAnyH_tk (i := 0) (oi := _) (v := ?vC0) rfl rfl (by kernel_rfl) (by kernel_rfl) (by kernel_rfl) (fun _ _ _ h => h) (Or.inl ⟨by kernel_rfl, ?yC0⟩) (by assumption) ?rC0
        case yC0 =>
          intro w hSw
          (try dsimp only at hSw)
          go_simp
          try with_reducible rfl
        try simp only [List.setIfInBounds_toArray, List.set_cons_zero, List.set_cons_succ]
        refine wpAnyH_tk (i := 1) (oi := _) (v := ?vC1) rfl rfl (by kernel_rfl) (by kernel_rfl) (by kernel_rfl) (fun _ _ _ h => h) (Or.inl ⟨by kernel_rfl, ?yC1⟩) (by assumption) ?rC1
        case yC1 =>
          intro w hSw
          (try dsimp only at hSw)
          go_simp
          try with_reducible rfl
        try simp only [List.setIfInBounds_toArray, List.set_cons_zero, List.set_cons_succ]
        refine wpAnyH_tk (i := 2) (oi := _) (v := ?vC2) rfl rfl (by kernel_rfl) (by kernel_rfl) (by kernel_rfl) (fun _ _ _ h => h) (Or.inl ⟨by kernel_rfl, ?yC2⟩) (by assumption) ?rC2
        case yC2 =>
          intro w hSw
          (try dsimp only at hSw)
          go_simp
          try with_reducible rfl
        try simp only [List.setIfInBounds_toArray, List.set_cons_zero, List.set_cons_succ]
        refine wpAnyH_tk (i := 3) (oi := _) (v := ?vC3) rfl rfl (by kernel_rfl) (by kernel_rfl) (by kernel_rfl) (fun _ _ _ h => h) (Or.inl ⟨by kernel_rfl, ?yC3⟩) (by assumption) ?rC3
        case yC3 =>
          intro w hSw
          (try dsimp only at hSw)
          go_simp
          try with_reducible rfl
        try simp only [List.setIfInBounds_toArray, List.set_cons_zero, List.set_cons_succ]
        refine wpAnyH_tk (i := 4) (oi := _) (v := ?vC4) rfl rfl (by kernel_rfl) (by kernel_rfl) (by kernel_rfl) (fun _ _ _ h => h) (Or.inl ⟨by kernel_rfl, ?yC4⟩) (by assumption) ?rC4
        case yC4 =>
          intro w hSw
          (try dsimp only at hSw)
          go_simp
          try with_reducible rfl
        try simp only [List.setIfInBounds_toArray, List.set_cons_zero, List.set_cons_succ]
        refine wpAnyH_tk (i := 5) (oi := _) (v := ?vC5) rfl rfl (by kernel_rfl) (by kernel_rfl) (by kernel_rfl) (fun _ _ _ h => h) (Or.inl ⟨by kernel_rfl, ?yC5⟩) (by assumption) ?rC5
        case yC5 =>
          intro w hSw
          (try dsimp only at hSw)
          go_simp
          try with_reducible rfl
        try simp only [List.setIfInBounds_toArray, List.set_cons_zero, List.set_cons_succ]
        refine wpAnyH_tk (i := 6) (oi := _) (v := ?vC6) rfl rfl (by kernel_rfl) (by kernel_rfl) (by kernel_rfl) (fun _ _ _ h => h) (Or.inl ⟨by kernel_rfl, ?yC6⟩) (by assumption) ?rC6
        case yC6 =>
          intro w hSw
          (try dsimp only at hSw)
          go_simp
          try with_reducible rfl
        try simp only [List.setIfInBounds_toArray, List.set_cons_zero, List.set_cons_succ]
        refine wpAnyH_ready (rs := [7]) (by kernel_rfl) (by simp) ?_
        refine AllReadyH.cons (o := _) rfl (fun K hK => ?_) AllReadyH.nil
        rw [if_pos (by kernel_rfl)]
        go_simp
        refine (HHS.out _ (Below.refl _ _).drew).mono ?_
        rintro e w' ⟨rfl, rfl⟩
        refine hK.out _ _ (HQ2.out _ (Below.refl _ _).drew) (fun _ => ?_)
        clear hK K
        try simp only [Act.put, List.setIfInBounds_toArray, List.set_cons_zero, List.set_cons_succ]
        refine wpAnyH_tk (i := 8) (oi := _) (v := ?vC8) rfl rfl (by kernel_rfl) (by kernel_rfl) (by kernel_rfl) (fun _ _ _ h => h) (Or.inl ⟨by kernel_rfl, ?yC8⟩) (by assumption) ?rC8
        case yC8 =>
          intro w hSw
          (try dsimp only at hSw)
          go_simp
          try with_reducible rfl
        try simp only [List.setIfInBounds_toArray, List.set_cons_zero, List.set_cons_succ]
        refine wpAnyH_done (by kernel_rfl) ?_ _
        cases bk <;> cases b3 <;> cases b4 <;> cases b1 <;> cases b2 <;>
          first
          | (have HE := hide (show false = R from HIN.out)
             go_wp2
             go_ret
             rw [← HE.out]
             exact ⟨rfl, below_up HB2.out HBD.out HB2.out.size⟩)
          | (have HE := hide (show (bIn Q.needs i s (k + 1) (L.drop (k + 1)) && bOut (fun x => (P x).needs) L (i + 1) (L.drop (i + 1))) = R from HIN.out)
             go_wp2
             go_roundw
             case rel => exact ⟨k + 1, by go_num, by omega, HE, HBD.out⟩
             case measure => simp [intOf]; omega)
end Go.Proofs.YtaajofojbhdgaaaGreatDoor
/- How long the needs of a target may be. No program in sight. -/
namespace Go.Proofs.YtaajofojbhdgaaaGreatDoor
open Ln Pth Vf
set_option linter.unusedSimpArgs false
set_option linter.unusedVariables false

theorem mem_needF {l : List ByteArray} {s y : ByteArray} (h : y ∈ needF l s) : y ∈ l ∨ y = s := by
  unfold needF at h
  split at h
  · exact .inl h
  · simpa using h
theorem mem_needsF : ∀ (n l : List ByteArray) {y : ByteArray}, y ∈ needsF l n → y ∈ l ∨ y ∈ n
  | [], l, y, h => .inl h
  | s :: n, l, y, h => by
    rcases mem_needsF n (needF l s) h with h | h
    · rcases mem_needF h with h | h
      · exact .inl h
      · exact .inr (by simp [h])
    · exact .inr (by simp [h])
theorem mem_gather {t : ByteArray} : ∀ (L : List Rl) (p : Pn) {y : ByteArray}, y ∈ (L.foldl (gatherF t) p).needs → y ∈ p.needs ∨ ∃ r ∈ L, y ∈ r.nd.2.2
  | [], p, y, h => .inl h
  | r :: L, p, y, h => by
    rcases mem_gather L (gatherF t p r) h with h | ⟨r', hr, h⟩
    · unfold gatherF at h
      split at h
      · rcases mem_needsF _ _ h with h | h
        · exact .inl h
        · exact .inr ⟨r, by simp, h⟩
      · exact .inl h
    · exact .inr ⟨r', by simp [hr], h⟩
theorem gather_len {t : ByteArray} {B : Nat} : ∀ (L : List Rl) (p : Pn), (∀ r ∈ L, r.nd.2.2.length ≤ B) → (L.foldl (gatherF t) p).needs.length ≤ p.needs.length + L.length * B
  | [], p, _ => by simp
  | r :: L, p, h => by
    have h1 := gather_len (t := t) (B := B) L (gatherF t p r) (fun x hx => h x (by simp [hx]))
    have h2 : (gatherF t p r).needs.length ≤ p.needs.length + B := by
      unfold gatherF
      split
      · have := needsF_len r.nd.2.2 p.needs
        have := h r (by simp)
        show (needsF _ _).length ≤ _
        omega
      · omega
    rw [List.foldl_cons, List.length_cons, Nat.succ_mul]
    omega
theorem firstO_mem {α β : Type} {f : α → Option β} {b : β} : ∀ {l : List α}, firstO f l = some b → ∃ a ∈ l, f a = some b
  | [], h => by cases h
  | a :: l, h => by
    rw [firstO] at h
    cases hf : f a with
    | some c => rw [hf] at h; exact ⟨a, by simp, by rw [hf]; exact h⟩
    | none =>
      rw [hf] at h
      obtain ⟨x, hx, e⟩ := firstO_mem h
      exact ⟨x, by simp [hx], e⟩
theorem fill_len (p st : T) : (fillT p st).length ≤ p.length + st.length := by
  by_cases h : 0 ≤ Lib.indexByte p 37
  · obtain ⟨k, hk⟩ := Int.eq_ofNat_of_zero_le h
    obtain ⟨h1, h2, h3, h4⟩ := cuts_at hk
    unfold fillT
    rw [if_neg (by simp [h1]), h2, h3, List.length_append, List.length_append, List.length_take, List.length_drop]
    omega
  · unfold fillT
    rw [if_pos (cuts_no h)]
    omega
theorem first_len {target : T} : ∀ {l : List ByteArray} {st : T}, firstF target l = some st → st.length ≤ target.length
  | [], st, h => by cases h
  | t :: l, st, h => by
    rw [firstF] at h
    split at h
    · injection h with h
      rw [← h]
      exact matchT_len _ _
    · exact first_len h
theorem plan_need (S : St) (cwd target : T) (L : List Rl) (B n : Nat) (h1 : ∀ r ∈ L, ∀ x ∈ r.tg.2.2, x.size ≤ B) (h2 : ∀ r ∈ L, ∀ x ∈ r.nd.2.2, x.size ≤ B) (h3 : ∀ r ∈ L, r.nd.2.2.length ≤ n) :
    (∀ y ∈ (planF S cwd L target).needs, y.size ≤ target.length + B) ∧ (planF S cwd L target).needs.length ≤ L.length * n + n + 1 := by
  have hg1 : ∀ y ∈ (gathersF (bs target) L).needs, y.size ≤ target.length + B := fun y hy => by
    rcases mem_gather L noPn hy with h | ⟨r, hr, h⟩
    · cases h
    · have := h2 r hr y h; omega
  have hg2 : (gathersF (bs target) L).needs.length ≤ L.length * n := by
    have := gather_len (t := bs target) L noPn h3
    have h0 : noPn.needs.length = 0 := rfl
    unfold gathersF
    omega
  unfold planF
  split
  · exact ⟨fun y hy => (by cases hy), by show (0 : Nat) ≤ _; omega⟩
  split
  · generalize gathersF (bs target) L = p at hg1 hg2
    unfold fitsF
    cases hp : firstO (pat1 S cwd (knownsF L) target p) L with
    | some q =>
      obtain ⟨r, hr, e⟩ := firstO_mem hp
      dsimp only
      unfold pat1 at e
      split at e
      · cases e
      split at e
      · cases e
      unfold patO at e
      cases hf : firstF target r.tg.2.2 with
      | none => rw [hf] at e; cases e
      | some st =>
        rw [hf] at e
        dsimp only at e
        split at e
        · injection e with e
          subst e
          have hfl : ∀ y ∈ fillsF r st, y.size ≤ target.length + B := fun y hy => by
            unfold fillsF at hy
            obtain ⟨s, hs, rfl⟩ := List.mem_map.1 hy
            have ha := fill_len s.data.toList st
            have hb := h2 r hr s hs
            have hc := first_len hf
            rw [bs_size]
            rw [data_len] at ha
            omega
          have hfn : (fillsF r st).length ≤ n := by unfold fillsF; rw [List.length_map]; exact h3 r hr
          refine ⟨fun y hy => ?_, ?_⟩
          · rcases mem_needsF _ _ hy with h | h
            · exact hg1 y h
            · exact hfl y h
          · have := needsF_len (fillsF r st) p.needs
            show (needsF _ _).length ≤ _
            omega
        · cases e
    | none =>
      dsimp only
      cases hs : firstO (suf1 S cwd (knownsF L) target (specialR L suffixes) p) L with
      | some q =>
        obtain ⟨r, hr, e⟩ := firstO_mem hs
        dsimp only
        rw [suf1_eq] at e
        cases hq : sufF S cwd (knownsF L) target (specialR L suffixes) r with
        | none => rw [hq] at e; cases e
        | some u =>
          rw [hq] at e
          injection e with e
          subst e
          have hu : u.1.length ≤ target.length + B := by
            unfold sufF at hq
            split at hq
            · cases hq
            rcases htg : r.tg.2.2 with _ | ⟨t, _ | ⟨t2, tl⟩⟩
            · rw [htg] at hq; cases hq
            · rw [htg] at hq
              dsimp only at hq
              split at hq
              · cases hq
              have htz := h1 r hr t (by rw [htg]; simp)
              have htw := (twoGo_len (B := B) (all := specialR L suffixes) (t := t.data.toList) (by rw [data_len]; exact htz) (specialR L suffixes) (fun x hx => by
                obtain ⟨r', hr', hx'⟩ := mem_special hx
                exact h2 r' hr' x hx')).1
              unfold sufQ at hq
              split at hq
              · cases hq
              split at hq
              · cases hq
              split at hq
              · cases hq
              split at hq
              · cases hq
              split at hq
              · cases hq
              injection hq with hq
              rw [← hq]
              dsimp only
              rw [List.length_append, List.length_take]
              unfold twoF at *
              omega
            · rw [htg] at hq; cases hq
          refine ⟨fun y hy => ?_, ?_⟩
          · rcases mem_needsF _ _ hy with h | h
            · exact hg1 y h
            · rw [List.mem_singleton.1 h, bs_size]; exact hu
          · have := needsF_len [bs u.1] p.needs
            show (needsF _ _).length ≤ _
            simp only [List.length_singleton] at this
            omega
      | none => exact ⟨hg1, by dsimp only; omega⟩
  · exact ⟨hg1, by omega⟩
end Go.Proofs.YtaajofojbhdgaaaGreatDoor
/- Walk of the law TraceTells: what any steps tell, of any rules over any tree. -/
namespace Go.Proofs.YtaajofojbhdgaaaGreatDoor
open Go.RowKit Go.Deep Go.Maps Ln Pth Vf
set_option linter.unusedSimpArgs false
set_option linter.unusedVariables false
attribute [local go_sem] bt_eq

theorem stp_two (W : World) : STP (W.alloc (.cells #[.string ⟨#[97]⟩, .int .i64 1, .string ⟨#[97]⟩, .int .i64 2] 32)) (some ⟨W.heap.size, 0, none⟩) [⟨⟨#[97]⟩, 1⟩, ⟨⟨#[97]⟩, 2⟩] := by
  have h := heapNew W (.cells #[.string ⟨#[97]⟩, .int .i64 1, .string ⟨#[97]⟩, .int .i64 2] 32)
  intro k x hk
  match k, hk with
  | 0, hk =>
    obtain rfl := Option.some.inj hk
    refine ⟨_, _, rfl, by simp, fun j v hj => ?_⟩
    match j, hj with
    | 0, hj => obtain rfl := Option.some.inj hj; exact cellOf h (j := 0) rfl
    | 1, hj => obtain rfl := Option.some.inj hj; exact cellOf h (j := 1) rfl
    | j + 2, hj => simp [encStp] at hj
  | 1, hk =>
    obtain rfl := Option.some.inj hk
    refine ⟨_, _, rfl, by simp, fun j v hj => ?_⟩
    match j, hj with
    | 0, hj => obtain rfl := Option.some.inj hj; exact cellOf h (j := 2) rfl
    | 1, hj => obtain rfl := Option.some.inj hj; exact cellOf h (j := 3) rfl
    | j + 2, hj => simp [encStp] at hj
  | k + 2, hk => simp at hk
theorem once_two : onceF [⟨⟨#[97]⟩, 1⟩, ⟨⟨#[97]⟩, 2⟩] = false := by kernel_rfl
set_option maxRecDepth 100000 in
set_option maxHeartbeats 4000000 in
theorem alive26_any (w : World) (hm : MX w) : Calls Tryz.prog 7 #[] w fun e w' => e = .returned (.bool true) ∧ Below w.heap.size w w' := by
  have HO1 := hide (once_any none 0 [] w (RG.nil _ _) (by simp) (fun s h => by cases h))
  rw [show onceF [] = true from rfl] at HO1
  go_enter Tryz.func7, Tryz.ntmps7
  go_wp2_with fail
  refine HO1.out.mono ?_
  rintro e w1 ⟨rfl, hb1⟩
  have HB1 := hide hb1
  have HN := hide (vnew_any 1 1 w1 (by omega) (by omega) (by omega) (by omega))
  clear hb1
  go_wp2_with fail
  refine HN.out.mono ?_
  rintro e w2 ⟨rfl, hb2, hv2, _⟩
  have HB2 := hide (below_up HB1.out hb2 HB1.out.size)
  have HBH := hide (behind_any (.slice none 0 0) none 0 0 (w1.heap.size + 1) ⟨#[47]⟩ (fun _ => noPn) none 0 [] w2 (RG.nil _ _) (by simp) (fun s h => by cases h) (fun s h => by cases h) (fun s h => by cases h))
  rw [show behindF (fun x => ((fun _ => noPn) x : Pn).needs) [] = true from rfl] at HBH
  clear hb2 hv2
  go_wp2_with fail
  refine HBH.out.mono ?_
  rintro e w3 ⟨rfl, hb3⟩
  have HB3 := hide (below_up HB2.out hb3 HB2.out.size)
  have hba := (Below.refl w3.heap.size w3).alloc (Nat.le_refl _) (.cells #[.string ⟨#[97]⟩, .int .i64 1, .string ⟨#[97]⟩, .int .i64 2] 32)
  have HBA := hide (below_up HB3.out hba HB3.out.size)
  have HO2 := hide (once_any (some ⟨w3.heap.size, 0, none⟩) 2 _ _ (stp_two w3) (by simp) (fun s h => by simp at h; rcases h with rfl | rfl <;> decide))
  rw [once_two] at HO2
  clear hb3 hba
  go_wp2_with fail
  refine HO2.out.mono ?_
  rintro e w4 ⟨rfl, hb4⟩
  have HB4 := hide (below_up HBA.out hb4 HBA.out.size)
  clear hb4
  go_wp2
  go_ret
  exact ⟨rfl, HB4.out⟩
theorem SmallM.knowns {ml : List Pr} {M : List Rl} (h : SmallM ml M) : (knownsF M).length ≤ 800 := by
  have h1 : ∀ L : List Rl, (∀ r ∈ L, r.tg.2.2.length ≤ 20) → (knownsF L).length ≤ L.length * 20 := by
    intro L
    induction L with
    | nil => intro _; simp [knownsF]
    | cons r L ih =>
      intro hb
      unfold knownsF at ih ⊢
      rw [List.flatMap_cons, List.length_append, List.length_cons]
      have := ih (fun r hr => hb r (by simp [hr]))
      have := hb r (by simp)
      split
      · omega
      · rw [List.length_nil]; omega
  have h2 := h1 M (fun r hr => h.tg r hr)
  have := h.rules
  omega
set_option maxRecDepth 100000 in
set_option maxHeartbeats 16000000 in
theorem law_traceTells (K : Nat) (hK : K ≤ 140737488355328) (X : MkV) (A : Option Addr) (c : Nat) (L : List Ac4) (cwd : ByteArray) (SA : Option Addr) (sc : Nat) (sl : List Stp)
    (m0 : L.length ≤ maxLen) (s0 : ∀ x ∈ L, szA x) (zc : cwd.size ≤ K) (mS : sl.length ≤ maxLen) (zS : ∀ x ∈ sl, x.t.size ≤ maxLen ∧ -9223372036854775808 ≤ x.what ∧ x.what ≤ 9223372036854775807)
    (W : World) (hm : MX W) (hX : MkIn K W X) (hA : AR4 W A L) (hS : RG encStp 2 W SA sl) :
    Calls Tryz.prog 3 #[.agg #[X.mv, X.rv], .slice A L.length c, .string cwd, .slice SA sl.length sc] W fun e w' => e = .returned (.bool true) ∧ Below W.heap.size W w' := by
  have HBM := hide (fun Z (hb : Below W.heap.size W Z) => bigM_any K (by omega) X Z (hX.below hb))
  have HBG := hide (fun Z (hb : Below W.heap.size W Z) => big_any A c L Z (hA.below hb).1 m0 s0)
  have HTR := hide (fun (h : bigF L = false) Z (hb : Below W.heap.size W Z) => trees_any A c L Z (hm.below hb) (hA.below hb) h)
  have HAL := hide (fun Z (hb : Below W.heap.size W Z) => alive26_any Z (hm.below hb))
  have HM := hide hm
  have HX := hide hX
  have HSS := hide (show STP W SA sl from hS)
  have HZS := hide zS
  have mS1 : sl.length ≤ 9223372036854775807 := mS
  have m01 : L.length ≤ 9223372036854775807 := m0
  have zc1 : cwd.size ≤ 140737488355328 := Nat.le_trans zc hK
  obtain ⟨ma, mc, ml, ra, rc, M⟩ := X
  simp only at HBM
  have HRR := hide (show RLI K W ra M from HX.out.rr)
  unfold MkV.mv MkV.rv at HBM ⊢
  simp only at HBM ⊢
  obtain ⟨mn, hmn⟩ : ∃ n, ml.length = n := ⟨_, rfl⟩
  obtain ⟨rn, hrn⟩ : ∃ n, M.length = n := ⟨_, rfl⟩
  obtain ⟨an, han⟩ : ∃ n, L.length = n := ⟨_, rfl⟩
  obtain ⟨nn, hnn⟩ : ∃ n, sl.length = n := ⟨_, rfl⟩
  have HRN := hide hrn
  have HNN := hide hnn
  rw [hmn, hrn] at HBM
  rw [han] at HBG HTR
  rw [hmn, hrn, han, hnn]
  rw [han] at m01
  rw [hnn] at mS1
  have HSM := hide (fun (h : bigM ml M = false) => bigM_no h)
  obtain ⟨bm, hbm⟩ : ∃ b, bigM ml M = b := ⟨_, rfl⟩
  obtain ⟨bf, hbf⟩ : ∃ b, bigF L = b := ⟨_, rfl⟩
  rw [hbm] at HBM HSM
  rw [hbf] at HBG HTR
  clear hm hX hA hS zS m0 s0 zc mS hmn hrn han hnn hbm hbf HX
  have HB0 := hide ((Below.refl W.heap.size W).alloc (Nat.le_refl _) (.cells #[.slice ma mn mc, .slice ra rn rc] 25))
  have HNB := hide (heapNew W (.cells #[.slice ma mn mc, .slice ra rn rc] 25))
  go_enter Tryz.func3, Tryz.ntmps3
  go_wp2_with fail
  refine (HAL.out _ HB0.out).mono ?_
  rintro e w1 ⟨rfl, hb1⟩
  have hh1 := (hb1.block W.heap.size (by simp)).trans HNB.out
  have hd0 := cellOf' hh1 (j := 0) rfl
  have hd1 := cellOf' hh1 (j := 1) rfl
  have HH1 := hide hh1
  have HB1 := hide (below_up HB0.out hb1 HB0.out.size)
  clear hb1 hh1
  go_wp2_with fail
  refine (HBM.out _ HB1.out).mono ?_
  rintro e w2 ⟨rfl, hb2⟩
  have hlw := (Array.getElem?_eq_some_iff.1 HH1.out).1
  have hh2 := (hb2.block W.heap.size hlw).trans HH1.out
  have HH2 := hide hh2
  have HB2 := hide (below_up HB1.out hb2 HB1.out.size)
  clear hb2 hh2 hlw hd0 hd1
  cases bm with
  | true =>
    go_wp2
    go_ret
    exact ⟨rfl, HB2.out⟩
  | false =>
  have hsm := HSM.out rfl
  go_wp2_with fail
  refine (HBG.out _ HB2.out).mono ?_
  rintro e w' ⟨rfl, rfl⟩
  cases bf with
  | true =>
    go_wp2
    go_ret
    exact ⟨rfl, HB2.out⟩
  | false =>
  by_cases g1 : 20 < an
  · have q1 : decide ((20 : Int) < (an : Int)) = true := by simp; omega
    have r1 : decide (20 < an) = true := by simpa using g1
    clear g1
    go_wp2
    go_ret
    exact ⟨rfl, HB2.out⟩
  have q1 : decide ((20 : Int) < (an : Int)) = false := by simp; omega
  have r1 : decide (20 < an) = false := by simpa using g1
  by_cases g2 : 60 < cwd.size
  · have q2 : decide ((60 : Int) < (cwd.size : Int)) = true := by simp; omega
    have r2 : decide (60 < cwd.size) = true := by simpa using g2
    clear g2
    go_wp2
    go_ret
    exact ⟨rfl, HB2.out⟩
  have q2 : decide ((60 : Int) < (cwd.size : Int)) = false := by simp; omega
  have r2 : decide (60 < cwd.size) = false := by simpa using g2
  by_cases g3 : 30 < nn
  · have q3 : decide ((30 : Int) < (nn : Int)) = true := by simp; omega
    have r3 : decide (30 < nn) = true := by simpa using g3
    clear g3
    go_wp2
    go_ret
    exact ⟨rfl, HB2.out⟩
  have q3 : decide ((30 : Int) < (nn : Int)) = false := by simp; omega
  have r3 : decide (30 < nn) = false := by simpa using g3
  have HSW := hide (HSS.out.below HB2.out)
  have hni : (nn : Int) ≤ 100 := by omega
  go_wp2
  go_loop [11] (fun v11 => ∃ k : Nat, v11 = .int .i64 k ∧ k ≤ nn ∧ Hid (∀ (j : Nat) (x : Stp), j < k → sl[j]? = some x → x.t.size ≤ 60)) (fun v11 => nn - (intOf v11).toNat)
  case atStart => exact ⟨0, rfl, by omega, hide (fun j x hj => by omega)⟩
  case round =>
  obtain ⟨k, rfl, hk, HZK⟩ := hrel
  by_cases hlt : k < nn
  · obtain ⟨x, hx⟩ : ∃ x, sl[k]? = some x := ⟨sl[k]'(by have := HNN.out; omega), List.getElem?_eq_getElem _⟩
    obtain ⟨g, o, rfl, hg, c0, c1⟩ := HSW.out.at hx
    have hxm := (HZS.out x (List.mem_of_getElem? hx)).1
    unfold maxLen at hxm
    have b1 : (k : Int) < (nn : Int) := by omega
    by_cases h60 : 60 < x.t.size
    · have t1 : decide ((60 : Int) < (x.t.size : Int)) = true := by simp; omega
      have t1' : decide (60 < x.t.size) = true := by simpa using h60
      clear h60 hx
      go_wp2
      go_ret
      exact ⟨rfl, HB2.out⟩
    · have t1 : decide ((60 : Int) < (x.t.size : Int)) = false := by simp; omega
      have t1' : decide (60 < x.t.size) = false := by simpa using h60
      have HZ2 := hide (show ∀ (j : Nat) (y : Stp), j < k + 1 → sl[j]? = some y → y.t.size ≤ 60 from fun j y hj hy => by
        by_cases e : j = k
        · subst e
          rw [hx] at hy
          injection hy with hy
          rw [← hy]
          omega
        · exact HZK.out j y (by omega) hy)
      clear h60 hx
      go_wp2
      go_round
      case rel => exact ⟨k + 1, by go_num, by omega, HZ2⟩
      case measure => simp [intOf]; omega
  obtain rfl : k = nn := by omega
  have hz60 : ∀ x ∈ sl, x.t.size ≤ 60 := fun x hx => by
    obtain ⟨j, hj⟩ := List.getElem?_of_mem hx
    exact HZK.out j x (by have := (List.getElem?_eq_some_iff.1 hj).1; have := HNN.out; omega) hj
  have HT1 := hide (HTR.out (by first | trivial | rfl) _ HB2.out)
  go_wp2_with fail
  refine HT1.out.mono ?_
  rintro e w3 ⟨f, r, rfl, hi⟩
  have hbi := hi.below
  have hb3 := below_up HB2.out hbi HB2.out.size
  have hlw := (Array.getElem?_eq_some_iff.1 HH2.out).1
  have hh3 := (hbi.block W.heap.size hlw).trans HH2.out
  have hd0 := cellOf' hh3 (j := 0) rfl
  have hd1 := cellOf' hh3 (j := 1) rfl
  have hl3 := (Array.getElem?_eq_some_iff.1 hh3).1
  have HVS := hide (Two.vs hi)
  have HRS := hide (show Hs (RS r (treeS L)) w3 from hi.fst.snd.hs)
  have HB3 := hide hb3
  have hgd := treeS_good L
  have hsl : (treeS L).m.length ≤ 1000000 := by have := hgd.wf.nodes; have := hgd.nodes; omega
  have hcl : cwd.data.toList.length ≤ 60 := by rw [data_len]; omega
  have hrl := fun Z (hb : Below w3.heap.size w3 Z) => hsm.rls (HRR.out.below (below_up hb3 hb hb3.size))
  have hml : M.length ≤ 1000 := by have := hsm.rules; omega
  have htz : ∀ x ∈ M, ∀ s ∈ x.tg.2.2, s.size ≤ 10000 := fun x hx s hs => Nat.le_trans (hsm.tgz x hx s hs) (by omega)
  have hnz : ∀ x ∈ M, ∀ s ∈ x.nd.2.2, s.size ≤ 10000 := fun x hx s hs => Nat.le_trans (hsm.ndz x hx s hs) (by omega)
  have hsp : ∀ y, (specialR M y).length ≤ 100000 := fun y => Nat.le_trans (hsm.special y) (by omega)
  have hkn : (knownsF M).length ≤ 100000 := Nat.le_trans hsm.knowns (by omega)
  have hss : ∀ s ∈ specialR M suffixes, s.size ≤ 10000 := fun s hs => by
    obtain ⟨x, hx, h⟩ := mem_special hs
    exact hnz x hx s h
  have hPP := fun (s : Stp) (hs : s ∈ sl) Z (hb : Below w3.heap.size w3 Z) => plan_any { mac := .slice ma mn mc, A := ra, c := rc, L := M, gf := f, S := treeS L, cwd := cwd.data.toList, target := s.t.data.toList } Z ⟨hrl Z hb, HVS.out.below (VS.fr f _) hb, HM.out.below (below_up hb3 hb hb3.size), by dsimp only; omega, by dsimp only; rw [data_len]; have := hz60 s hs; omega, hml⟩ ⟨htz, fun x hx _ => hnz x hx, hss, hkn, hsp _⟩ (hsp _)
  have hPR := fun (s : Stp) (hs : s ∈ sl) Z (hb : Below w3.heap.size w3 Z) => rplan_any (.slice ma mn mc) ra rc M r (treeS L) cwd.data.toList s.t.data.toList Z ⟨hrl Z hb, hml, htz, hnz, HRS.out.below (RS.fr r _) hb, hsl, by omega⟩ (by rw [data_len]; have := hz60 s hs; omega) hsp
  simp only [bs_of] at hPP hPR
  have hpn := fun (s : Stp) (hs : s ∈ sl) => plan_need (treeS L) cwd.data.toList s.t.data.toList M 4000 20 hsm.tgz hsm.ndz (fun x hx => hsm.nd x hx)
  have hnd : ∀ s ∈ sl, (planF (treeS L) cwd.data.toList M s.t.data.toList).needs.length ≤ 100000 ∧ ∀ y ∈ (planF (treeS L) cwd.data.toList M s.t.data.toList).needs, y.size ≤ 1000000 := fun s hs => by
    obtain ⟨a, b⟩ := hpn s hs
    have h6 := hz60 s hs
    have := hsm.rules
    refine ⟨by omega, fun y hy => ?_⟩
    have := a y hy
    rw [data_len] at this
    omega
  have hsw3 := HSS.out.below hb3
  have hnl : sl.length ≤ 100000 := by have := HNN.out; omega
  have HO := hide (fun Z (hb : Below w3.heap.size w3 Z) => once_any SA sc sl Z (hsw3.below hb) hnl (fun s hs => by have := hz60 s hs; omega))
  have HRO := hide (fun Z (hb : Below w3.heap.size w3 Z) => ronce18_any SA sc sl Z (hsw3.below hb) hnl)
  have HMD := hide (fun Z (hb : Below w3.heap.size w3 Z) => made_any SA sc sl Z (hsw3.below hb) hnl)
  have HRM := hide (fun Z (hb : Below w3.heap.size w3 Z) => rmade18_any SA sc sl Z (hsw3.below hb) hnl)
  have HBP := hide (fun Z (hb : Below w3.heap.size w3 Z) => behind_any (.slice ma mn mc) ra M.length rc f cwd (fun x => planF (treeS L) cwd.data.toList M x.data.toList) SA sc sl Z (hsw3.below hb) hnl (fun s hs => by have := hz60 s hs; omega) (fun s hs Z2 h2 => hPP s hs Z2 (below_up hb h2 hb.size)) hnd)
  have HBR := hide (fun Z (hb : Below w3.heap.size w3 Z) => rbehind18_any (.slice ma mn mc) ra M.length rc r cwd (fun x => planF (treeS L) cwd.data.toList M x.data.toList) SA sc sl Z (hsw3.below hb) hnl (fun s hs Z2 h2 => hPR s hs Z2 (below_up hb h2 hb.size)) (fun s hs => (hnd s hs).1))
  have hwl : (madeF sl).length ≤ 100000 := by have := made_len sl; omega
  rw [HNN.out] at HO HRO HMD HRM HBP HBR
  rw [HRN.out] at HBP HBR
  obtain ⟨b1, hb1⟩ : ∃ b, onceF sl = b := ⟨_, rfl⟩
  obtain ⟨b3, hb3'⟩ : ∃ b, behindF (fun x => (planF (treeS L) cwd.data.toList M x.data.toList).needs) sl = b := ⟨_, rfl⟩
  obtain ⟨NW, hnw⟩ : ∃ b, madeF sl = b := ⟨_, rfl⟩
  rw [hb1] at HO HRO
  rw [hb3'] at HBP HBR
  rw [hnw] at HMD HRM hwl
  have HSA := hide (fun P1 c1 P2 c2 Z (h1 : SR Z P1 NW) (h2 : SR Z P2 NW) => (same_any P1 P2 c1 c2 NW NW Z h1 h2 hwl).mono fun e w' ⟨h3, h4⟩ => (⟨h3.trans (by rw [decide_eq_true rfl]), h4⟩ : e = Ending.returned (.bool true) ∧ Drew Z w'))
  obtain ⟨wn, hwn⟩ : ∃ n, NW.length = n := ⟨_, rfl⟩
  have HWN := hide hwn
  rw [hwn] at HSA
  have hq := fun (Z : World) (hb : Below w3.heap.size w3 Z) => show (fun Z => Z.cell? ⟨W.heap.size, 0, none⟩ = some (.slice ma mn mc) ∧ Z.cell? ⟨W.heap.size, 1, none⟩ = some (.slice ra rn rc)) Z from ⟨(hb.cell (p := ⟨W.heap.size, 0, none⟩) hl3).trans hd0, (hb.cell (p := ⟨W.heap.size, 1, none⟩) hl3).trans hd1⟩
  have HQ := hide hq
  have e1 : (b1 == b1) = true := by simp
  have e3 : (b3 == b3) = true := by simp
  clear hq hi hbi hb3 hh3 hgd hsl hcl hrl hml htz hsp hnz hkn hss hPP hPR hpn hnd hsw3 hnl hb1 hb3' hnw hwn hsm hlw q1 q2 q3 r1 r2 r3 g1 g2 g3 hz60
  go_wp2_with fail
  refine wp_region_held_drew (S := (fun Z => Z.cell? ⟨W.heap.size, 0, none⟩ = some (.slice ma mn mc) ∧ Z.cell? ⟨W.heap.size, 1, none⟩ = some (.slice ra rn rc))) (by kernel_rfl) (HQ.out _ (Below.refl _ _).drew) (fun hHeld => ?_)
  refine wpAnyH_tk (i := 0) (oi := _) (v := ?vT0) rfl rfl (by kernel_rfl) (by kernel_rfl) (by kernel_rfl) (fun _ _ _ h => h) (Or.inl ⟨by kernel_rfl, ?yT0⟩) (by assumption) ?rT0
  case yT0 =>
    intro w hSw
    (try dsimp only at hSw)
    go_simp
    try with_reducible rfl
  try simp only [List.setIfInBounds_toArray, List.set_cons_zero, List.set_cons_succ]
  refine wpAnyH_tk (i := 2) (oi := _) (v := ?vT2) rfl rfl (by kernel_rfl) (by kernel_rfl) (by kernel_rfl) (fun _ _ _ h => h) (Or.inl ⟨by kernel_rfl, ?yT2⟩) (by assumption) ?rT2
  case yT2 =>
    intro w hSw
    (try dsimp only at hSw)
    go_simp
    try with_reducible rfl
  try simp only [List.setIfInBounds_toArray, List.set_cons_zero, List.set_cons_succ]
  refine wpAnyH_ready (rs := [1]) (by kernel_rfl) (by simp) ?_
  refine AllReadyH.cons (o := _) rfl (fun K hK => ?_) AllReadyH.nil
  rw [if_pos (by kernel_rfl)]
  go_simp
  refine (HO.out _ (Below.refl _ _).drew).mono ?_
  rintro e w4 ⟨rfl, hb4⟩
  have HB4 := hide (below_up (Below.refl w3.heap.size w3).drew hb4 (Nat.le_refl _))
  clear hb4
  refine hK.out _ _ (HQ.out _ HB4.out) (fun _ => ?_)
  clear hK K
  try simp only [Act.put, List.setIfInBounds_toArray, List.set_cons_zero, List.set_cons_succ]
  refine wpAnyH_ready (rs := [3]) (by kernel_rfl) (by simp) ?_
  refine AllReadyH.cons (o := _) rfl (fun K hK => ?_) AllReadyH.nil
  rw [if_pos (by kernel_rfl)]
  go_simp
  refine (HRO.out w4 HB4.out).mono ?_
  rintro e w5 ⟨rfl, hb5⟩
  have HB5 := hide (below_up HB4.out hb5 HB4.out.size)
  clear hb5
  refine hK.out _ _ (HQ.out _ HB5.out) (fun _ => ?_)
  clear hK K
  try simp only [Act.put, List.setIfInBounds_toArray, List.set_cons_zero, List.set_cons_succ]
  refine wpAnyH_tk (i := 4) (oi := _) (v := ?vT4) rfl rfl (by kernel_rfl) (by kernel_rfl) (by kernel_rfl) (fun _ _ _ h => h) (Or.inl ⟨by kernel_rfl, ?yT4⟩) (by assumption) ?rT4
  case yT4 =>
    intro w hSw
    (try dsimp only at hSw)
    go_simp
    try with_reducible rfl
  try simp only [List.setIfInBounds_toArray, List.set_cons_zero, List.set_cons_succ]
  refine wpAnyH_tk (i := 5) (oi := _) (v := ?vT5) rfl rfl (by kernel_rfl) (by kernel_rfl) (by kernel_rfl) (fun _ _ _ h => h) (Or.inl ⟨by kernel_rfl, ?yT5⟩) (by assumption) ?rT5
  case yT5 =>
    intro w hSw
    (try dsimp only at hSw)
    go_simp
    try with_reducible rfl
  try simp only [List.setIfInBounds_toArray, List.set_cons_zero, List.set_cons_succ]
  refine wpAnyH_tk (i := 6) (oi := _) (v := ?vT6) rfl rfl (by kernel_rfl) (by kernel_rfl) (by kernel_rfl) (fun _ _ _ h => h) (Or.inl ⟨by kernel_rfl, ?yT6⟩) (by assumption) ?rT6
  case yT6 =>
    intro w hSw
    (try dsimp only at hSw)
    go_simp
    try with_reducible rfl
  try simp only [List.setIfInBounds_toArray, List.set_cons_zero, List.set_cons_succ]
  refine wpAnyH_tk (i := 8) (oi := _) (v := ?vT8) rfl rfl (by kernel_rfl) (by kernel_rfl) (by kernel_rfl) (fun _ _ _ h => h) (Or.inl ⟨by kernel_rfl, ?yT8⟩) (by assumption) ?rT8
  case yT8 =>
    intro w hSw
    (try dsimp only at hSw)
    go_simp
    try with_reducible rfl
  try simp only [List.setIfInBounds_toArray, List.set_cons_zero, List.set_cons_succ]
  refine wpAnyH_ready (rs := [7]) (by kernel_rfl) (by simp) ?_
  refine AllReadyH.cons (o := _) rfl (fun K hK => ?_) AllReadyH.nil
  rw [if_pos (by kernel_rfl)]
  go_simp
  refine (HMD.out w5 HB5.out).mono ?_
  rintro e w6 ⟨⟨v6, rfl, ho6⟩, hb6⟩
  obtain ⟨P6, c6, rfl, hc6, hs6, _⟩ := ho6.slice
  rw [HWN.out]
  have HS6 := hide hs6
  have HB6 := hide (below_up HB5.out hb6 HB5.out.size)
  clear hb6 ho6 hs6 hc6
  refine hK.out _ _ (HQ.out _ HB6.out) (fun _ => ?_)
  clear hK K
  try simp only [Act.put, List.setIfInBounds_toArray, List.set_cons_zero, List.set_cons_succ]
  refine wpAnyH_ready (rs := [9]) (by kernel_rfl) (by simp) ?_
  refine AllReadyH.cons (o := _) rfl (fun K hK => ?_) AllReadyH.nil
  rw [if_pos (by kernel_rfl)]
  go_simp
  refine (HRM.out w6 HB6.out).mono ?_
  rintro e w7 ⟨⟨v7, rfl, ho7⟩, hb7⟩
  obtain ⟨P7, c7, rfl, hc7, hs7, _⟩ := ho7.slice
  rw [HWN.out]
  have HS7 := hide hs7
  have HS67 := hide (HS6.out.below hb7)
  have HB7 := hide (below_up HB6.out hb7 HB6.out.size)
  clear hb7 ho7 hs7 hc7
  refine hK.out _ _ (HQ.out _ HB7.out) (fun _ => ?_)
  clear hK K
  try simp only [Act.put, List.setIfInBounds_toArray, List.set_cons_zero, List.set_cons_succ]
  refine wpAnyH_ready (rs := [10]) (by kernel_rfl) (by simp) ?_
  refine AllReadyH.cons (o := _) rfl (fun K hK => ?_) AllReadyH.nil
  rw [if_pos (by kernel_rfl)]
  go_simp
  refine (HSA.out P6 c6 P7 c7 w7 HS67.out HS7.out).mono ?_
  rintro e w8 ⟨rfl, hd8⟩
  have HB8 := hide (below_up HB7.out hd8.below HB7.out.size)
  clear hd8
  refine hK.out _ _ (HQ.out _ HB8.out) (fun _ => ?_)
  clear hK K
  try simp only [Act.put, List.setIfInBounds_toArray, List.set_cons_zero, List.set_cons_succ]
  refine wpAnyH_tk (i := 11) (oi := _) (v := ?vT11) rfl rfl (by kernel_rfl) (by kernel_rfl) (by kernel_rfl) (fun _ _ _ h => h) (Or.inl ⟨by kernel_rfl, ?yT11⟩) (by assumption) ?rT11
  case yT11 =>
    intro w hSw
    (try dsimp only at hSw)
    go_simp
    try with_reducible rfl
  try simp only [List.setIfInBounds_toArray, List.set_cons_zero, List.set_cons_succ]
  refine wpAnyH_tk (i := 12) (oi := _) (v := ?vT12) rfl rfl (by kernel_rfl) (by kernel_rfl) (by kernel_rfl) (fun _ _ _ h => h) (Or.inl ⟨by kernel_rfl, ?yT12⟩) (by assumption) ?rT12
  case yT12 =>
    intro w hSw
    (try dsimp only at hSw)
    go_simp
    try with_reducible rfl
  try simp only [List.setIfInBounds_toArray, List.set_cons_zero, List.set_cons_succ]
  refine wpAnyH_tk (i := 13) (oi := _) (v := ?vT13) rfl rfl (by kernel_rfl) (by kernel_rfl) (by kernel_rfl) (fun _ _ _ h => h) (Or.inl ⟨by kernel_rfl, ?yT13⟩) (by assumption) ?rT13
  case yT13 =>
    intro w hSw
    (try dsimp only at hSw)
    go_simp
    try with_reducible rfl
  try simp only [List.setIfInBounds_toArray, List.set_cons_zero, List.set_cons_succ]
  refine wpAnyH_tk (i := 14) (oi := _) (v := ?vT14) rfl rfl (by kernel_rfl) (by kernel_rfl) (by kernel_rfl) (fun _ _ _ h => h) (Or.inl ⟨by kernel_rfl, ?yT14⟩) (by assumption) ?rT14
  case yT14 =>
    intro w hSw
    (try dsimp only at hSw)
    go_simp
    try with_reducible rfl
  try simp only [List.setIfInBounds_toArray, List.set_cons_zero, List.set_cons_succ]
  refine wpAnyH_tk (i := 15) (oi := _) (v := ?vT15) rfl rfl (by kernel_rfl) (by kernel_rfl) (by kernel_rfl) (fun _ _ _ h => h) (Or.inl ⟨by kernel_rfl, ?yT15⟩) (by assumption) ?rT15
  case yT15 =>
    intro w hSw
    (try dsimp only at hSw)
    go_simp
    try with_reducible rfl
  try simp only [List.setIfInBounds_toArray, List.set_cons_zero, List.set_cons_succ]
  refine wpAnyH_tk (i := 16) (oi := _) (v := ?vT16) rfl rfl (by kernel_rfl) (by kernel_rfl) (by kernel_rfl) (fun _ _ _ h => h) (Or.inl ⟨by kernel_rfl, ?yT16⟩) (by assumption) ?rT16
  case yT16 =>
    intro w hSw
    (try dsimp only at hSw)
    go_simp
    try with_reducible rfl
  try simp only [List.setIfInBounds_toArray, List.set_cons_zero, List.set_cons_succ]
  refine wpAnyH_tk (i := 18) (oi := _) (v := ?vT18) rfl rfl (by kernel_rfl) (by kernel_rfl) (by kernel_rfl) (fun _ _ _ h => h) (Or.inl ⟨by kernel_rfl, ?yT18⟩) (by assumption) ?rT18
  case yT18 =>
    intro w hSw
    (try dsimp only at hSw)
    go_simp
    try with_reducible rfl
  try simp only [List.setIfInBounds_toArray, List.set_cons_zero, List.set_cons_succ]
  refine wpAnyH_tk (i := 19) (oi := _) (v := ?vT19) rfl rfl (by kernel_rfl) (by kernel_rfl) (by kernel_rfl) (fun _ _ _ h => h) (Or.inl ⟨by kernel_rfl, ?yT19⟩) (by assumption) ?rT19
  case yT19 =>
    intro w hSw
    (try dsimp only at hSw)
    go_simp
    try with_reducible rfl
  try simp only [List.setIfInBounds_toArray, List.set_cons_zero, List.set_cons_succ]
  refine wpAnyH_tk (i := 20) (oi := _) (v := ?vT20) rfl rfl (by kernel_rfl) (by kernel_rfl) (by kernel_rfl) (fun _ _ _ h => h) (Or.inl ⟨by kernel_rfl, ?yT20⟩) (by assumption) ?rT20
  case yT20 =>
    intro w hSw
    (try dsimp only at hSw)
    go_simp
    try with_reducible rfl
  try simp only [List.setIfInBounds_toArray, List.set_cons_zero, List.set_cons_succ]
  refine wpAnyH_tk (i := 21) (oi := _) (v := ?vT21) rfl rfl (by kernel_rfl) (by kernel_rfl) (by kernel_rfl) (fun _ _ _ h => h) (Or.inl ⟨by kernel_rfl, ?yT21⟩) (by assumption) ?rT21
  case yT21 =>
    intro w hSw
    (try dsimp only at hSw)
    go_simp
    try with_reducible rfl
  try simp only [List.setIfInBounds_toArray, List.set_cons_zero, List.set_cons_succ]
  refine wpAnyH_ready (rs := [17]) (by kernel_rfl) (by simp) ?_
  refine AllReadyH.cons (o := _) rfl (fun K hK => ?_) AllReadyH.nil
  rw [if_pos (by kernel_rfl)]
  go_simp
  refine (HBP.out w8 HB8.out).mono ?_
  rintro e w9 ⟨rfl, hb9⟩
  have HB9 := hide (below_up HB8.out hb9 HB8.out.size)
  clear hb9
  refine hK.out _ _ (HQ.out _ HB9.out) (fun _ => ?_)
  clear hK K
  try simp only [Act.put, List.setIfInBounds_toArray, List.set_cons_zero, List.set_cons_succ]
  refine wpAnyH_ready (rs := [22]) (by kernel_rfl) (by simp) ?_
  refine AllReadyH.cons (o := _) rfl (fun K hK => ?_) AllReadyH.nil
  rw [if_pos (by kernel_rfl)]
  go_simp
  refine (HBR.out w9 HB9.out).mono ?_
  rintro e wa ⟨rfl, hba⟩
  have HBA := hide (below_up HB9.out hba HB9.out.size)
  clear hba
  refine hK.out _ _ (HQ.out _ HBA.out) (fun _ => ?_)
  clear hK K
  try simp only [Act.put, List.setIfInBounds_toArray, List.set_cons_zero, List.set_cons_succ]
  refine wpAnyH_tk (i := 23) (oi := _) (v := ?vT23) rfl rfl (by kernel_rfl) (by kernel_rfl) (by kernel_rfl) (fun _ _ _ h => h) (Or.inl ⟨by kernel_rfl, ?yT23⟩) (by assumption) ?rT23
  case yT23 =>
    intro w hSw
    (try dsimp only at hSw)
    go_simp
    try with_reducible rfl
  try simp only [List.setIfInBounds_toArray, List.set_cons_zero, List.set_cons_succ]
  refine wpAnyH_tk (i := 24) (oi := _) (v := ?vT24) rfl rfl (by kernel_rfl) (by kernel_rfl) (by kernel_rfl) (fun _ _ _ h => h) (Or.inl ⟨by kernel_rfl, ?yT24⟩) (by assumption) ?rT24
  case yT24 =>
    intro w hSw
    (try dsimp only at hSw)
    go_simp
    try with_reducible rfl
  try simp only [List.setIfInBounds_toArray, List.set_cons_zero, List.set_cons_succ]
  refine wpAnyH_tk (i := 25) (oi := _) (v := ?vT25) rfl rfl (by kernel_rfl) (by kernel_rfl) (by kernel_rfl) (fun _ _ _ h => h) (Or.inl ⟨by kernel_rfl, ?yT25⟩) (by assumption) ?rT25
  case yT25 =>
    intro w hSw
    (try dsimp only at hSw)
    go_simp
    try with_reducible rfl
  try simp only [List.setIfInBounds_toArray, List.set_cons_zero, List.set_cons_succ]
  refine wpAnyH_done (by kernel_rfl) ?_ _
  go_wp2
  go_ret
  exact ⟨rfl, below_up HB3.out HBA.out HB3.out.size⟩
end Go.Proofs.YtaajofojbhdgaaaGreatDoor
