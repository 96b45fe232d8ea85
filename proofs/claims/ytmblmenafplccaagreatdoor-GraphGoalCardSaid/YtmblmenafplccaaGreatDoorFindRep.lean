/- How find's finder lies in memory. -/
import Derived.Test.YtmblmenafplccaaGreatDoorFindMath
import Derived.Test.YtmblmenafplccaaGreatDoorFindWalkA
import Derived.Test.YtmblmenafplccaaGreatDoorVfsWalkA
import Derived.Test.YtmblmenafplccaaGreatDoorMapSet
namespace Go.Proofs.YtmblmenafplccaaGreatDoor
open Go.RowKit Go.Deep Go.Maps Ln Pth Vf

/-- what a finder never changes -/
structure Cf where
  mac : Value
  A : Option Addr
  c : Nat
  L : List Rl
  gf : Nat
  S : St
  cwd : T
  target : T
/-- what holds of it ahead -/
structure CfOk (C : Cf) (w : World) : Prop where
  rl : RLS w C.A C.L
  vs : Hs (VS C.gf C.S) w
  mx : MX w
  c1 : C.cwd.length ≤ 90000
  t1 : C.target.length ≤ 10000
  ln : C.L.length ≤ 1000
theorem CfOk.below {C : Cf} {w w' : World} (h : CfOk C w) (hb : Below w.heap.size w w') : CfOk C w' := ⟨h.rl.below hb, h.vs.below (VS.fr _ _) hb, h.mx.below hb, h.c1, h.t1, h.ln⟩
def fcells (C : Cf) (kb : Option Nat) (vn vr : Value) (st : T) (ru : Bool) : Array Value := #[C.mac, .slice C.A C.L.length C.c, .pointer (some ⟨C.gf, 0, none⟩), .string (bs C.cwd), .string (bs C.target), .map kb, vn, vr, .string (bs st), .bool ru]
/-- a finder -/
structure FI (w0 : World) (C : Cf) (g : Nat) (kb : Option Nat) (kl : List ByteArray) (p : Pn) (T : Nat → Prop) (w : World) : Prop where
  below : Below w0.heap.size w0 w
  tg : T g
  tw : ∀ k, T k → w0.heap.size ≤ k ∧ k < w.heap.size
  known : ∀ b, kb = some b → MSet w b kl ∧ ¬ T b
  body : ∃ vn vr, w.heap[g]? = some (.cells (fcells C kb vn vr p.stem p.rule) 154) ∧ OwnS w w0.heap.size vn p.needs ∧ vn.ownBlock ≠ some g ∧ (∀ k, vn.ownBlock = some k → T k) ∧ OwnS w w0.heap.size vr p.recipe ∧ ∀ k, vr.ownBlock = some k → ¬ T k
/-- what a call on it leaves -/
def FIP (w0 : World) (C : Cf) (g : Nat) (kb : Option Nat) (kl : List ByteArray) (p : Pn) (T : Nat → Prop) (w w' : World) : Prop := ∃ T', FI w0 C g kb kl p T' w' ∧ Kp w w' T ∧ ∀ k, T' k → T k ∨ w.heap.size ≤ k
theorem OwnS.of {w w' : World} {base : Nat} {v : Value} {L : List ByteArray} (h : OwnS w base v L) (hb : ∀ k, v.ownBlock = some k → w'.heap[k]? = w.heap[k]?) : OwnS w' base v L := by
  obtain ⟨h1, h2⟩ := h
  refine ⟨h1, ?_⟩
  rcases h2 with h | ⟨g, cap, cur, rfl, hg, hh, r⟩
  · exact .inl h
  · exact .inr ⟨g, cap, cur, rfl, hg, (hb g rfl).trans hh, r⟩
theorem FI.step {w0 w w' : World} {C : Cf} {g : Nat} {kb : Option Nat} {kl : List ByteArray} {p : Pn} {T : Nat → Prop} (h : FI w0 C g kb kl p T w) (hb : Below w.heap.size w w') : FI w0 C g kb kl p T w' := by
  obtain ⟨vn, vr, h1, h2, h3, h4, h5, h6⟩ := h.body
  refine ⟨below_up h.below hb h.below.size, h.tg, fun k hk => ⟨(h.tw k hk).1, Nat.lt_of_lt_of_le (h.tw k hk).2 hb.size⟩, fun b e => ⟨(h.known b e).1.of (hb.block b (h.known b e).1.lt), (h.known b e).2⟩, vn, vr, (hb.block g (h.tw g h.tg).2).trans h1, h2.below' hb, h3, h4, h5.below' hb, h6⟩
theorem FI.toP {w0 w w' : World} {C : Cf} {g : Nat} {kb : Option Nat} {kl : List ByteArray} {p : Pn} {T : Nat → Prop} (h : FI w0 C g kb kl p T w) (hb : Below w.heap.size w w') : FIP w0 C g kb kl p T w w' :=
  ⟨T, h.step hb, Kp.of_below hb T, fun _ hk => .inl hk⟩
theorem FIP.trans {w0 w w' w'' : World} {C : Cf} {g : Nat} {kb kb' : Option Nat} {kl kl' : List ByteArray} {p p' : Pn} {T : Nat → Prop} (h : FIP w0 C g kb kl p T w w') (h2 : ∀ T', FI w0 C g kb kl p T' w' → FIP w0 C g kb' kl' p' T' w' w'') : FIP w0 C g kb' kl' p' T w w'' := by
  obtain ⟨T', f, k, gr⟩ := h
  obtain ⟨T2, f2, k2, gr2⟩ := h2 T' f
  refine ⟨T2, f2, k.trans (k2.mono gr), fun q hq => ?_⟩
  rcases gr2 q hq with h | h
  · exact gr q h
  · exact .inr (Nat.le_trans k.size h)
theorem FIP.from_ {w0 w w1 w' : World} {C : Cf} {g : Nat} {kb : Option Nat} {kl : List ByteArray} {p : Pn} {T T' : Nat → Prop} (hk : Kp w w1 T) (hg : ∀ k, T' k → T k ∨ w.heap.size ≤ k) (h : FIP w0 C g kb kl p T' w1 w') : FIP w0 C g kb kl p T w w' := by
  obtain ⟨T2, f2, k2, g2⟩ := h
  refine ⟨T2, f2, hk.trans (k2.mono hg), fun q hq => ?_⟩
  rcases g2 q hq with h | h
  · exact hg q h
  · exact .inr (Nat.le_trans hk.size h)
theorem FIP.after {w0 w w1 w' : World} {C : Cf} {g : Nat} {kb : Option Nat} {kl : List ByteArray} {p : Pn} {T : Nat → Prop} (hb : Below w.heap.size w w1) (h : FIP w0 C g kb kl p T w1 w') : FIP w0 C g kb kl p T w w' := by
  obtain ⟨T', f, k, gr⟩ := h
  refine ⟨T', f, (Kp.of_below hb T).trans (k.mono fun q hq => .inl hq), fun q hq => (gr q hq).imp_right (Nat.le_trans hb.size)⟩
theorem FIP.below {w0 w w' : World} {C : Cf} {g : Nat} {kb : Option Nat} {kl : List ByteArray} {p : Pn} {T : Nat → Prop} (h : FIP w0 C g kb kl p T w w') : Below w0.heap.size w0 w' := by
  obtain ⟨T', f, _, _⟩ := h; exact f.below
/-- what its cells hold -/
theorem FI.opn {w0 w : World} {C : Cf} {g : Nat} {kb : Option Nat} {kl : List ByteArray} {p : Pn} {T : Nat → Prop} (h : FI w0 C g kb kl p T w) : ∃ (A6 : Option Addr) (c6 : Nat) (A7 : Option Addr) (c7 : Nat),
    w.heap[g]? = some (.cells (fcells C kb (.slice A6 p.needs.length c6) (.slice A7 p.recipe.length c7) p.stem p.rule) 154) ∧ OwnS w w0.heap.size (.slice A6 p.needs.length c6) p.needs ∧ (Value.slice A6 p.needs.length c6).ownBlock ≠ some g ∧ (∀ k, (Value.slice A6 p.needs.length c6).ownBlock = some k → T k) ∧ OwnS w w0.heap.size (.slice A7 p.recipe.length c7) p.recipe ∧ (∀ k, (Value.slice A7 p.recipe.length c7).ownBlock = some k → ¬ T k) ∧ SR w A6 p.needs ∧ SR w A7 p.recipe := by
  obtain ⟨vn, vr, h1, h2, h3, h4, h5, h6⟩ := h.body
  obtain ⟨A6, c6, rfl, _, s6, _⟩ := h2.slice
  obtain ⟨A7, c7, rfl, _, s7, _⟩ := h5.slice
  exact ⟨A6, c6, A7, c7, h1, h2, h3, h4, h5, h6, s6, s7⟩
theorem Kp.own {w w' : World} {T : Nat → Prop} (h : Kp w w' T) {base : Nat} {v : Value} {L : List ByteArray} (ho : OwnS w base v L) (hv : ∀ k, v.ownBlock = some k → ¬ T k) : OwnS w' base v L :=
  ho.of fun k hk => h.block k (World.ownsRow.lt ho k hk).2 (hv k hk)
theorem Kp.sr {w w' : World} {T : Nat → Prop} (h : Kp w w' T) {A : Option Addr} {L : List ByteArray} (hs : SR w A L) (hA : ∀ a, A = some a → L ≠ [] → ¬ T a.block) : SR w' A L := fun k s hk => by
  obtain ⟨g, o, e, hg, hc⟩ := hs k s hk
  exact ⟨g, o, e, Nat.lt_of_lt_of_le hg h.size, h.cell hc (hA _ e (by rintro rfl; simp at hk))⟩
theorem SR.lt {w : World} {A : Option Addr} {L : List ByteArray} (h : SR w A L) {a : Addr} (e : A = some a) (hL : L ≠ []) : a.block < w.heap.size := by
  cases L with
  | nil => exact absurd rfl hL
  | cons x L =>
    obtain ⟨g, o, e', hg, _⟩ := h 0 x rfl
    rw [e] at e'
    injection e' with e'
    subst e'
    exact hg
theorem kp_set {w : World} {g j : Nat} {v : Value} : Kp w (w.setCell ⟨g, j, none⟩ v) (fun k => k = g) :=
  ⟨rfl, rfl, rfl, by simp, fun k _ hne => Below.heap_setCell _ _ _ _ (by simpa using hne)⟩
/-- behind an append to its needs -/
theorem FI.app {w0 w w4 : World} {C : Cf} {g : Nat} {kb : Option Nat} {kl : List ByteArray} {p : Pn} {T : Nat → Prop} (h : FI w0 C g kb kl p T w) {A6 : Option Addr} {c6 : Nat} {A7 : Option Addr} {c7 : Nat} {v4 : Value} {N : List ByteArray}
    (hg : w.heap[g]? = some (.cells (fcells C kb (.slice A6 p.needs.length c6) (.slice A7 p.recipe.length c7) p.stem p.rule) 154)) (hne : (Value.slice A6 p.needs.length c6).ownBlock ≠ some g) (hT : ∀ k, (Value.slice A6 p.needs.length c6).ownBlock = some k → T k)
    (hr : OwnS w w0.heap.size (.slice A7 p.recipe.length c7) p.recipe) (hrT : ∀ k, (Value.slice A7 p.recipe.length c7).ownBlock = some k → ¬ T k)
    (o4 : OwnS w4 w0.heap.size v4 (p.needs ++ N)) (g4 : w.grownBy w4 (Value.slice A6 p.needs.length c6).ownBlock) (b4 : v4.ownBlock = (Value.slice A6 p.needs.length c6).ownBlock ∨ v4.ownBlock = some w.heap.size) :
    FIP w0 C g kb kl { p with needs := p.needs ++ N } T w (w4.setCell ⟨g, 6, none⟩ v4) := by
  have hgl := (h.tw g h.tg).2
  have hk4 : Kp w w4 T := ⟨g4.os, g4.tape, g4.output, g4.size, fun k hk hn => g4.block k hk (fun e => hn (hT k e.symm))⟩
  have hks := kp_set (w := w4) (g := g) (j := 6) (v := v4)
  have hk : Kp w (w4.setCell ⟨g, 6, none⟩ v4) T := hk4.trans (hks.mono fun k e => .inl (e ▸ h.tg))
  have hg4 := (g4.block g hgl (fun e => hne e.symm)).trans hg
  have hv4g : v4.ownBlock ≠ some g := by
    rcases b4 with e | e
    · rw [e]; exact hne
    · rw [e]; intro h2; injection h2 with h2; omega
  have hbel : Below w0.heap.size w0 (w4.setCell ⟨g, 6, none⟩ v4) := hk.below h.below (Nat.le_refl _) (fun k hk => (h.tw k hk).1)
  refine ⟨fun k => T k ∨ v4.ownBlock = some k, ⟨hbel, .inl h.tg, ?_, ?_, v4, .slice A7 p.recipe.length c7, ?_, ?_, hv4g, fun k e => .inr e, hk.own hr hrT, ?_⟩, hk, ?_⟩
  · rintro k (hk1 | hk1)
    · exact ⟨(h.tw k hk1).1, Nat.lt_of_lt_of_le (h.tw k hk1).2 hk.size⟩
    · have := World.ownsRow.lt o4 k hk1
      exact ⟨this.1, by simpa using this.2⟩
  · intro b e
    have hb := h.known b e
    refine ⟨hb.1.of (hk.block b hb.1.lt hb.2), ?_⟩
    rintro (h1 | h1)
    · exact hb.2 h1
    · rcases b4 with e2 | e2
      · exact hb.2 (hT b (e2 ▸ h1))
      · have := hb.1.lt
        rw [e2] at h1
        injection h1 with h1
        omega
  · rw [heapSet hg4]
    rfl
  · exact o4.of fun k e => hks.block k (World.ownsRow.lt o4 k e).2 (fun e2 => hv4g (by rw [e, e2]))
  · rintro k e (h1 | h1)
    · exact hrT k e h1
    · rcases b4 with e2 | e2
      · exact hrT k e (hT k (e2 ▸ h1))
      · have := (World.ownsRow.lt hr k e).2
        rw [e2] at h1
        injection h1 with h1
        omega
  · rintro k (h1 | h1)
    · exact .inl h1
    · rcases b4 with e | e
      · exact .inl (hT k (e ▸ h1))
      · rw [e] at h1; injection h1 with h1; exact .inr (by omega)
/-- behind a new recipe -/
theorem FI.rec_ {w0 w : World} {C : Cf} {g : Nat} {kb : Option Nat} {kl : List ByteArray} {p : Pn} {T : Nat → Prop} (h : FI w0 C g kb kl p T w) {v : Value} {R : List ByteArray} (ho : OwnS w w0.heap.size v R) (hv : ∀ k, v.ownBlock = some k → ¬ T k) : FIP w0 C g kb kl { p with recipe := R } T w (w.setCell ⟨g, 7, none⟩ v) := by
  obtain ⟨vn, vr, h1, h2, h3, h4, h5, h6⟩ := h.body
  have hks := kp_set (w := w) (g := g) (j := 7) (v := v)
  have hk : Kp w (w.setCell ⟨g, 7, none⟩ v) T := hks.mono fun k e => e ▸ h.tg
  have hng : v.ownBlock ≠ some g := fun e => hv g e h.tg
  refine ⟨T, ⟨hk.below h.below (Nat.le_refl _) (fun k hk => (h.tw k hk).1), h.tg, fun k hk1 => ⟨(h.tw k hk1).1, Nat.lt_of_lt_of_le (h.tw k hk1).2 hk.size⟩, fun b e => ⟨(h.known b e).1.of (hk.block b (h.known b e).1.lt (h.known b e).2), (h.known b e).2⟩, vn, v, ?_, ?_, h3, h4, hk.own ho hv, hv⟩, hk, fun k hk => .inl hk⟩
  · rw [heapSet h1]
    rfl
  · exact h2.of fun k e => hks.block k (World.ownsRow.lt h2 k e).2 (fun e2 => h3 (by rw [e, e2]))
theorem FI.stem_ {w0 w : World} {C : Cf} {g : Nat} {kb : Option Nat} {kl : List ByteArray} {p : Pn} {T : Nat → Prop} (h : FI w0 C g kb kl p T w) (s : Ln.T) : FIP w0 C g kb kl { p with stem := s } T w (w.setCell ⟨g, 8, none⟩ (.string (bs s))) := by
  obtain ⟨vn, vr, h1, h2, h3, h4, h5, h6⟩ := h.body
  have hks := kp_set (w := w) (g := g) (j := 8) (v := .string (bs s))
  have hk : Kp w (w.setCell ⟨g, 8, none⟩ (.string (bs s))) T := hks.mono fun k e => e ▸ h.tg
  refine ⟨T, ⟨hk.below h.below (Nat.le_refl _) (fun k hk => (h.tw k hk).1), h.tg, fun k hk1 => ⟨(h.tw k hk1).1, Nat.lt_of_lt_of_le (h.tw k hk1).2 hk.size⟩, fun b e => ⟨(h.known b e).1.of (hk.block b (h.known b e).1.lt (h.known b e).2), (h.known b e).2⟩, vn, vr, ?_, ?_, h3, h4, hk.own h5 h6, h6⟩, hk, fun k hk => .inl hk⟩
  · rw [heapSet h1]
    rfl
  · exact h2.of fun k e => hks.block k (World.ownsRow.lt h2 k e).2 (fun e2 => h3 (by rw [e, e2]))
theorem FI.rule_ {w0 w : World} {C : Cf} {g : Nat} {kb : Option Nat} {kl : List ByteArray} {p : Pn} {T : Nat → Prop} (h : FI w0 C g kb kl p T w) (b0 : Bool) : FIP w0 C g kb kl { p with rule := b0 } T w (w.setCell ⟨g, 9, none⟩ (.bool b0)) := by
  obtain ⟨vn, vr, h1, h2, h3, h4, h5, h6⟩ := h.body
  have hks := kp_set (w := w) (g := g) (j := 9) (v := .bool b0)
  have hk : Kp w (w.setCell ⟨g, 9, none⟩ (.bool b0)) T := hks.mono fun k e => e ▸ h.tg
  refine ⟨T, ⟨hk.below h.below (Nat.le_refl _) (fun k hk => (h.tw k hk).1), h.tg, fun k hk1 => ⟨(h.tw k hk1).1, Nat.lt_of_lt_of_le (h.tw k hk1).2 hk.size⟩, fun b e => ⟨(h.known b e).1.of (hk.block b (h.known b e).1.lt (h.known b e).2), (h.known b e).2⟩, vn, vr, ?_, ?_, h3, h4, hk.own h5 h6, h6⟩, hk, fun k hk => .inl hk⟩
  · rw [heapSet h1]
    rfl
  · exact h2.of fun k e => hks.block k (World.ownsRow.lt h2 k e).2 (fun e2 => h3 (by rw [e, e2]))
/-- behind the making of its map of what is known -/
theorem FI.known_ {w0 w : World} {C : Cf} {g : Nat} {kb : Option Nat} {kl : List ByteArray} {p : Pn} {T : Nat → Prop} (h : FI w0 C g kb kl p T w) {b : Nat} {kl' : List ByteArray} (hm : MSet w b kl') (hb : ¬ T b) : FIP w0 C g (some b) kl' p T w (w.setCell ⟨g, 5, none⟩ (.map (some b))) := by
  obtain ⟨vn, vr, h1, h2, h3, h4, h5, h6⟩ := h.body
  have hks := kp_set (w := w) (g := g) (j := 5) (v := .map (some b))
  have hk : Kp w (w.setCell ⟨g, 5, none⟩ (.map (some b))) T := hks.mono fun k e => e ▸ h.tg
  refine ⟨T, ⟨hk.below h.below (Nat.le_refl _) (fun k hk => (h.tw k hk).1), h.tg, fun k hk1 => ⟨(h.tw k hk1).1, Nat.lt_of_lt_of_le (h.tw k hk1).2 hk.size⟩, ?_, vn, vr, ?_, ?_, h3, h4, hk.own h5 h6, h6⟩, hk, fun k hk => .inl hk⟩
  · intro b' e
    injection e with e
    subst e
    exact ⟨hm.of (hk.block b hm.lt hb), hb⟩
  · rw [heapSet h1]
    rfl
  · exact h2.of fun k e => hks.block k (World.ownsRow.lt h2 k e).2 (fun e2 => h3 (by rw [e, e2]))
end Go.Proofs.YtmblmenafplccaaGreatDoor
