/- How a search of graph.Order lies in memory. What the steps of a search make of it. -/
import Derived.Test.YtmblmenafplccaaGreatDoorGraphMath
import Derived.Test.YtmblmenafplccaaGreatDoorMkSep
namespace Go.Proofs.YtmblmenafplccaaGreatDoor
open Go.RowKit Go.Deep Go.Maps Ln Pth Vf
set_option linter.unusedSimpArgs false
set_option linter.unusedVariables false

/-- a target that waits, and where its needs lie -/
structure OpV where
  t : ByteArray
  nd : SRow
def encO (o : OpV) : List Value := [.string o.t, sv o.nd]
theorem encO_len (o : OpV) : (encO o).length = 2 := rfl
theorem encO_one (o : OpV) : ∀ u ∈ encO o, u.oneCell' = true := by
  intro u hu
  simp only [encO, sv, List.mem_cons, List.not_mem_nil, or_false] at hu
  rcases hu with rfl | rfl <;> rfl
def oOf (o : OpV) : Opn := (o.t, o.nd.2.2)
def rowO : RowT Tryz.prog 81 125 2 := { z := .agg #[.string ⟨#[]⟩, .slice none 0 0], bytes := 40, und := Tryz.underlying81, info := by kernel_rfl, zlen := rfl, pos := by omega, sb := by omega }
/-- what a search never changes -/
structure Gc where
  v0 : Value
  v1 : Value
  gf : Nat
  cwd : ByteArray
def gcells (C : Gc) (b : Nat) (vw vd : Value) : Array Value := #[C.v0, C.v1, .pointer (some ⟨C.gf, 0, none⟩), .string C.cwd, vw, .map (some b), vd]
/-- a row of texts in such blocks, with its capacity -/
def SNC (N : Nat → Prop) (x : SRow) : Prop := SN N x ∧ x.2.2.length ≤ x.2.1
/-- a search -/
structure GI (w0 : World) (C : Gc) (g b : Nat) (s : Se) (T : Nat → Prop) (w : World) : Prop where
  below : Below w0.heap.size w0 w
  tg : T g
  tb : T b
  gb : g ≠ b
  tw : ∀ k, T k → w0.heap.size ≤ k ∧ k < w.heap.size
  met : MSet w b s.met
  nodup : s.met.Nodup
  body : ∃ vw vd wl, w.heap[g]? = some (.cells (gcells C b vw vd) 83) ∧ OwnG encO 2 125 w w0.heap.size vw wl ∧ OwnS w w0.heap.size vd s.done ∧
    (∀ k, vw.ownBlock = some k → T k ∧ k ≠ g ∧ k ≠ b) ∧ (∀ k, vd.ownBlock = some k → T k ∧ k ≠ g ∧ k ≠ b ∧ vw.ownBlock ≠ some k) ∧
    s.way = (wl.map oOf).reverse ∧ ∀ o ∈ wl, SR w o.nd.1 o.nd.2.2 ∧ SNC (fun k => ¬ T k) o.nd
/-- what a call on it leaves -/
def GIP (w0 : World) (C : Gc) (g b : Nat) (s : Se) (T : Nat → Prop) (w w' : World) : Prop := ∃ T', GI w0 C g b s T' w' ∧ Kp w w' T ∧ ∀ k, T' k → T k ∨ w.heap.size ≤ k
theorem SR.keep {w w' : World} {x : SRow} {T : Nat → Prop} (h : SR w x.1 x.2.2) (hn : SNC (fun k => ¬ T k) x) (hk : Kp w w' T) : SR w' x.1 x.2.2 := hk.sr h fun a e h1 => hn.1 a e h1
theorem GI.step {w0 w w' : World} {C : Gc} {g b : Nat} {s : Se} {T : Nat → Prop} (h : GI w0 C g b s T w) (hb : Below w.heap.size w w') : GI w0 C g b s T w' := by
  obtain ⟨vw, vd, wl, h1, h2, h3, h4, h5, h6, h7⟩ := h.body
  have hl := fun k hk => (h.tw k hk).2
  exact ⟨below_up h.below hb h.below.size, h.tg, h.tb, h.gb, fun k hk => ⟨(h.tw k hk).1, Nat.lt_of_lt_of_le (h.tw k hk).2 hb.size⟩, h.met.of (hb.block b (hl b h.tb)), h.nodup,
    vw, vd, wl, (hb.block g (hl g h.tg)).trans h1, h2.of (fun k e => hb.block k (hl k (h4 k e).1)), h3.of (fun k e => hb.block k (hl k (h5 k e).1)), h4, h5, h6, fun o ho => ⟨(h7 o ho).1.below hb, (h7 o ho).2⟩⟩
theorem GI.toP {w0 w w' : World} {C : Gc} {g b : Nat} {s : Se} {T : Nat → Prop} (h : GI w0 C g b s T w) (hb : Below w.heap.size w w') : GIP w0 C g b s T w w' :=
  ⟨T, h.step hb, Kp.of_below hb T, fun _ hk => .inl hk⟩
theorem GIP.trans {w0 w w' w'' : World} {C : Gc} {g b : Nat} {s s' : Se} {T : Nat → Prop} (h : GIP w0 C g b s T w w') (h2 : ∀ T', GI w0 C g b s T' w' → GIP w0 C g b s' T' w' w'') : GIP w0 C g b s' T w w'' := by
  obtain ⟨T', f, k, gr⟩ := h
  obtain ⟨T2, f2, k2, gr2⟩ := h2 T' f
  refine ⟨T2, f2, k.trans (k2.mono gr), fun q hq => ?_⟩
  rcases gr2 q hq with h | h
  · exact gr q h
  · exact .inr (Nat.le_trans k.size h)
theorem GIP.below {w0 w w' : World} {C : Gc} {g b : Nat} {s : Se} {T : Nat → Prop} (h : GIP w0 C g b s T w w') : Below w0.heap.size w0 w' := by
  obtain ⟨T', f, _, _⟩ := h; exact f.below
/-- what its cells hold -/
theorem GI.opn {w0 w : World} {C : Gc} {g b : Nat} {s : Se} {T : Nat → Prop} (h : GI w0 C g b s T w) : ∃ (A4 : Option Addr) (c4 : Nat) (A6 : Option Addr) (c6 : Nat) (wl : List OpV),
    w.heap[g]? = some (.cells (gcells C b (.slice A4 wl.length c4) (.slice A6 s.done.length c6)) 83) ∧ OwnG encO 2 125 w w0.heap.size (.slice A4 wl.length c4) wl ∧ OwnS w w0.heap.size (.slice A6 s.done.length c6) s.done ∧
    (∀ k, (Value.slice A4 wl.length c4).ownBlock = some k → T k ∧ k ≠ g ∧ k ≠ b) ∧ (∀ k, (Value.slice A6 s.done.length c6).ownBlock = some k → T k ∧ k ≠ g ∧ k ≠ b ∧ (Value.slice A4 wl.length c4).ownBlock ≠ some k) ∧
    s.way = (wl.map oOf).reverse ∧ (∀ o ∈ wl, SR w o.nd.1 o.nd.2.2 ∧ SNC (fun k => ¬ T k) o.nd) ∧ RG encO 2 w A4 wl ∧ wl.length ≤ c4 ∧ (∀ a, A4 = some a → ∃ g, a = ⟨g, 0, none⟩) := by
  obtain ⟨vw, vd, wl, h1, h2, h3, h4, h5, h6, h7⟩ := h.body
  obtain ⟨A4, c4, rfl, l4, s4, _, z4⟩ := h2.slice encO_len
  obtain ⟨A6, c6, rfl, _, s6, _⟩ := h3.slice
  exact ⟨A4, c4, A6, c6, wl, h1, h2, h3, h4, h5, h6, h7, s4, l4, z4⟩
theorem way_len {s : Se} {wl : List OpV} (h : s.way = (wl.map oOf).reverse) : s.way.length = wl.length := by rw [h]; simp
/-- behind the meeting of a target -/
theorem GI.meet {w0 w w' : World} {C : Gc} {g b : Nat} {s : Se} {T : Nat → Prop} (h : GI w0 C g b s T w) {x : ByteArray} (hx : x ∉ s.met) (hm : MSet w' b (s.met ++ [x])) (hk : Kp w w' (fun k => k = b)) (hz : w'.heap.size = w.heap.size) : GI w0 C g b ⟨s.way, s.met ++ [x], s.done⟩ T w' := by
  obtain ⟨vw, vd, wl, h1, h2, h3, h4, h5, h6, h7⟩ := h.body
  have hl := fun k hk => (h.tw k hk).2
  refine ⟨hk.below h.below (Nat.le_refl _) (fun k e => by subst e; exact (h.tw _ h.tb).1), h.tg, h.tb, h.gb, fun k hk => ⟨(h.tw k hk).1, by rw [hz]; exact hl k hk⟩, hm, ?_, vw, vd, wl, (hk.block g (hl g h.tg) h.gb).trans h1, h2.of (fun k e => hk.block k (hl k (h4 k e).1) (h4 k e).2.2), h3.of (fun k e => hk.block k (hl k (h5 k e).1) (h5 k e).2.2.1), h4, h5, h6, fun o ho => ⟨?_, (h7 o ho).2⟩⟩
  · rw [List.nodup_append]
    exact ⟨h.nodup, by simp, fun a ha c hc => by rw [List.mem_singleton.1 hc]; rintro rfl; exact hx ha⟩
  · exact (h7 o ho).1.keep (h7 o ho).2 (hk.mono fun k e => e ▸ h.tb)
/-- behind an append to what waits -/
theorem GI.push {w0 w w4 : World} {C : Gc} {g b : Nat} {s : Se} {T : Nat → Prop} (h : GI w0 C g b s T w) {A4 : Option Addr} {c4 : Nat} {A6 : Option Addr} {c6 : Nat} {wl : List OpV} {v4 : Value} {o : OpV}
    (h1 : w.heap[g]? = some (.cells (gcells C b (.slice A4 wl.length c4) (.slice A6 s.done.length c6)) 83))
    (h3 : OwnS w w0.heap.size (.slice A6 s.done.length c6) s.done) (h4 : ∀ k, (Value.slice A4 wl.length c4).ownBlock = some k → T k ∧ k ≠ g ∧ k ≠ b) (h5 : ∀ k, (Value.slice A6 s.done.length c6).ownBlock = some k → T k ∧ k ≠ g ∧ k ≠ b ∧ (Value.slice A4 wl.length c4).ownBlock ≠ some k)
    (h6 : s.way = (wl.map oOf).reverse) (h7 : ∀ o ∈ wl, SR w o.nd.1 o.nd.2.2 ∧ SNC (fun k => ¬ T k) o.nd) (ho : SR w o.nd.1 o.nd.2.2) (hn : SNC (fun k => ¬ T k) o.nd)
    (o4 : OwnG encO 2 125 w4 w0.heap.size v4 (wl ++ [o])) (g4 : w.grownBy w4 (Value.slice A4 wl.length c4).ownBlock) (b4 : v4.ownBlock = (Value.slice A4 wl.length c4).ownBlock ∨ v4.ownBlock = some w.heap.size) :
    GIP w0 C g b ⟨oOf o :: s.way, s.met, s.done⟩ T w (w4.setCell ⟨g, 4, none⟩ v4) := by
  have hl := fun k hk => (h.tw k hk).2
  have hgl := hl g h.tg
  have hk4 : Kp w w4 T := ⟨g4.os, g4.tape, g4.output, g4.size, fun k hk hn => g4.block k hk (fun e => hn (h4 k e.symm).1)⟩
  have hks := kp_set (w := w4) (g := g) (j := 4) (v := v4)
  have hk : Kp w (w4.setCell ⟨g, 4, none⟩ v4) T := hk4.trans (hks.mono fun k e => .inl (e ▸ h.tg))
  have hgne : some g ≠ (Value.slice A4 wl.length c4).ownBlock := fun e => (h4 g e.symm).2.1 rfl
  have hbne : some b ≠ (Value.slice A4 wl.length c4).ownBlock := fun e => (h4 b e.symm).2.2 rfl
  have hg4 := (g4.block g hgl hgne).trans h1
  have hv4g : v4.ownBlock ≠ some g := by
    rcases b4 with e | e
    · rw [e]; exact fun e => hgne e.symm
    · rw [e]; intro h2; injection h2 with h2; omega
  have hv4b : v4.ownBlock ≠ some b := by
    rcases b4 with e | e
    · rw [e]; exact fun e => hbne e.symm
    · rw [e]; intro h2; injection h2 with h2; have := hl b h.tb; omega
  have hbel : Below w0.heap.size w0 (w4.setCell ⟨g, 4, none⟩ v4) := hk.below h.below (Nat.le_refl _) (fun k hk => (h.tw k hk).1)
  have hblk : ∀ k, k < w.heap.size → k ≠ g → some k ≠ (Value.slice A4 wl.length c4).ownBlock → (w4.setCell ⟨g, 4, none⟩ v4).heap[k]? = w.heap[k]? := fun k hk h1 h2 => (hks.block k (Nat.lt_of_lt_of_le hk g4.size) h1).trans (g4.block k hk h2)
  refine ⟨fun k => T k ∨ v4.ownBlock = some k, ⟨hbel, .inl h.tg, .inl h.tb, h.gb, ?_, h.met.of (hblk b (hl b h.tb) (fun e => h.gb e.symm) hbne), h.nodup, v4, .slice A6 s.done.length c6, wl ++ [o], ?_, ?_, ?_, ?_, ?_, ?_, ?_⟩, hk, ?_⟩
  · rintro k (hk1 | hk1)
    · exact ⟨(h.tw k hk1).1, Nat.lt_of_lt_of_le (h.tw k hk1).2 hk.size⟩
    · have := World.ownsRow.lt o4 k hk1
      exact ⟨this.1, by simpa using this.2⟩
  · rw [heapSet hg4]
    rfl
  · exact o4.of fun k e => hks.block k (World.ownsRow.lt o4 k e).2 (fun e2 => hv4g (by rw [e, e2]))
  · exact h3.of fun k e => hblk k (hl k (h5 k e).1) (h5 k e).2.1 (fun e2 => (h5 k e).2.2.2 e2.symm)
  · intro k e
    refine ⟨.inr e, fun e2 => hv4g (by rw [e, e2]), fun e2 => hv4b (by rw [e, e2])⟩
  · intro k e
    have h8 := h5 k e
    refine ⟨.inl h8.1, h8.2.1, h8.2.2.1, fun e2 => ?_⟩
    rcases b4 with e3 | e3
    · exact h8.2.2.2 (e3 ▸ e2)
    · rw [e3] at e2; injection e2 with e2; have := hl k h8.1; omega
  · simp [h6]
  · intro p hp
    have hpn : SR w p.nd.1 p.nd.2.2 ∧ SNC (fun k => ¬ T k) p.nd := by
      rcases List.mem_append.1 hp with hp | hp
      · exact h7 p hp
      · rw [List.mem_singleton.1 hp]; exact ⟨ho, hn⟩
    refine ⟨hpn.1.keep hpn.2 hk, fun a e h8 => ?_, hpn.2.2⟩
    rintro (h9 | h9)
    · exact hpn.2.1 a e h8 h9
    · rcases b4 with e3 | e3
      · exact hpn.2.1 a e h8 (h4 _ (e3 ▸ h9)).1
      · rw [e3] at h9
        injection h9 with h9
        have := SR.lt hpn.1 e h8
        omega
  · rintro k (h1 | h1)
    · exact .inl h1
    · rcases b4 with e | e
      · exact .inl (h4 k (e ▸ h1)).1
      · rw [e] at h1; injection h1 with h1; exact .inr (by omega)
theorem valsG_snoc {wl : List OpV} {o o' : OpV} (h : o.t = o'.t) : (valsG encO (wl ++ [o])).set (wl.length * 2 + 1) (sv o'.nd) = valsG encO (wl ++ [o']) := by
  rw [valsG_app, valsG_app, List.set_append_right _ _ (by rw [valsG_len encO_len]; omega), valsG_len encO_len, show wl.length * 2 + 1 - wl.length * 2 = 1 by omega]
  simp [valsG, encO, h]
/-- behind the taking of a need -/
theorem GI.next {w0 w : World} {C : Gc} {g b : Nat} {s : Se} {T : Nat → Prop} (h : GI w0 C g b s T w) {bw c4 : Nat} {A6 : Option Addr} {c6 : Nat} {wl : List OpV} {o o' : OpV}
    (h1 : w.heap[g]? = some (.cells (gcells C b (.slice (some ⟨bw, 0, none⟩) (wl.length + 1) c4) (.slice A6 s.done.length c6)) 83))
    (h2 : OwnG encO 2 125 w w0.heap.size (.slice (some ⟨bw, 0, none⟩) (wl.length + 1) c4) (wl ++ [o]))
    (h3 : OwnS w w0.heap.size (.slice A6 s.done.length c6) s.done) (h4 : T bw ∧ bw ≠ g ∧ bw ≠ b) (h5 : ∀ k, (Value.slice A6 s.done.length c6).ownBlock = some k → T k ∧ k ≠ g ∧ k ≠ b ∧ bw ≠ k)
    (h7 : ∀ o ∈ wl, SR w o.nd.1 o.nd.2.2 ∧ SNC (fun k => ¬ T k) o.nd) (ht : o.t = o'.t) (ho : SR w o'.nd.1 o'.nd.2.2) (hn : SNC (fun k => ¬ T k) o'.nd) :
    GIP w0 C g b ⟨oOf o' :: (wl.map oOf).reverse, s.met, s.done⟩ T w (w.setCell ⟨bw, wl.length * 2 + 1, none⟩ (sv o'.nd)) := by
  have hl := fun k hk => (h.tw k hk).2
  have hks := kp_set (w := w) (g := bw) (j := wl.length * 2 + 1) (v := sv o'.nd)
  have hk : Kp w (w.setCell ⟨bw, wl.length * 2 + 1, none⟩ (sv o'.nd)) T := hks.mono fun k e => e ▸ h4.1
  obtain ⟨hst, _⟩ := World.ownsRow.stored (show w.ownsRow w0.heap.size 125 2 (.slice (some ⟨bw, 0, none⟩) (wl.length + 1) c4) (wl.length + 1) (valsG encO (wl ++ [o])) from by
    have := h2
    unfold OwnG at this
    rw [List.length_append] at this
    exact this) (wl.length * 2 + 1) (sv o'.nd)
  rw [valsG_snoc ht] at hst
  refine ⟨T, ⟨hk.below h.below (Nat.le_refl _) (fun k hk => (h.tw k hk).1), h.tg, h.tb, h.gb, fun k hk1 => ⟨(h.tw k hk1).1, Nat.lt_of_lt_of_le (h.tw k hk1).2 hk.size⟩, h.met.of (hks.block b (hl b h.tb) (fun e => h4.2.2 e.symm)), h.nodup,
    .slice (some ⟨bw, 0, none⟩) (wl.length + 1) c4, .slice A6 s.done.length c6, wl ++ [o'], (hks.block g (hl g h.tg) (fun e => h4.2.1 e.symm)).trans h1, ?_, h3.of (fun k e => hks.block k (hl k (h5 k e).1) (fun e2 => (h5 k e).2.2.2 e2.symm)), ?_, ?_, ?_, ?_⟩, hk, fun k hk => .inl hk⟩
  · unfold OwnG
    rw [List.length_append]
    exact hst
  · intro k e
    injection e with e
    subst e
    exact h4
  · intro k e
    have := h5 k e
    exact ⟨this.1, this.2.1, this.2.2.1, fun e2 => this.2.2.2 (by injection e2)⟩
  · simp
  · intro p hp
    have hpn : SR w p.nd.1 p.nd.2.2 ∧ SNC (fun k => ¬ T k) p.nd := by
      rcases List.mem_append.1 hp with hp | hp
      · exact h7 p hp
      · rw [List.mem_singleton.1 hp]; exact ⟨ho, hn⟩
    exact ⟨hpn.1.keep hpn.2 hk, hpn.2⟩
/-- behind an append to what is done -/
theorem GI.fin {w0 w w4 : World} {C : Gc} {g b : Nat} {s : Se} {T : Nat → Prop} (h : GI w0 C g b s T w) {vw : Value} {A6 : Option Addr} {c6 : Nat} {wl : List OpV} {v4 : Value} {x : ByteArray}
    (h1 : w.heap[g]? = some (.cells (gcells C b vw (.slice A6 s.done.length c6)) 83)) (h2 : OwnG encO 2 125 w w0.heap.size vw wl)
    (h4 : ∀ k, vw.ownBlock = some k → T k ∧ k ≠ g ∧ k ≠ b) (h5 : ∀ k, (Value.slice A6 s.done.length c6).ownBlock = some k → T k ∧ k ≠ g ∧ k ≠ b ∧ vw.ownBlock ≠ some k)
    (h6 : s.way = (wl.map oOf).reverse) (h7 : ∀ o ∈ wl, SR w o.nd.1 o.nd.2.2 ∧ SNC (fun k => ¬ T k) o.nd)
    (o4 : OwnS w4 w0.heap.size v4 (s.done ++ [x])) (g4 : w.grownBy w4 (Value.slice A6 s.done.length c6).ownBlock) (b4 : v4.ownBlock = (Value.slice A6 s.done.length c6).ownBlock ∨ v4.ownBlock = some w.heap.size) :
    GIP w0 C g b ⟨s.way, s.met, s.done ++ [x]⟩ T w (w4.setCell ⟨g, 6, none⟩ v4) := by
  have hl := fun k hk => (h.tw k hk).2
  have hgl := hl g h.tg
  have hk4 : Kp w w4 T := ⟨g4.os, g4.tape, g4.output, g4.size, fun k hk hn => g4.block k hk (fun e => hn (h5 k e.symm).1)⟩
  have hks := kp_set (w := w4) (g := g) (j := 6) (v := v4)
  have hk : Kp w (w4.setCell ⟨g, 6, none⟩ v4) T := hk4.trans (hks.mono fun k e => .inl (e ▸ h.tg))
  have hgne : some g ≠ (Value.slice A6 s.done.length c6).ownBlock := fun e => (h5 g e.symm).2.1 rfl
  have hbne : some b ≠ (Value.slice A6 s.done.length c6).ownBlock := fun e => (h5 b e.symm).2.2.1 rfl
  have hg4 := (g4.block g hgl hgne).trans h1
  have hv4g : v4.ownBlock ≠ some g := by
    rcases b4 with e | e
    · rw [e]; exact fun e => hgne e.symm
    · rw [e]; intro h2; injection h2 with h2; omega
  have hv4b : v4.ownBlock ≠ some b := by
    rcases b4 with e | e
    · rw [e]; exact fun e => hbne e.symm
    · rw [e]; intro h2; injection h2 with h2; have := hl b h.tb; omega
  have hbel : Below w0.heap.size w0 (w4.setCell ⟨g, 6, none⟩ v4) := hk.below h.below (Nat.le_refl _) (fun k hk => (h.tw k hk).1)
  have hblk : ∀ k, k < w.heap.size → k ≠ g → some k ≠ (Value.slice A6 s.done.length c6).ownBlock → (w4.setCell ⟨g, 6, none⟩ v4).heap[k]? = w.heap[k]? := fun k hk h1 h2 => (hks.block k (Nat.lt_of_lt_of_le hk g4.size) h1).trans (g4.block k hk h2)
  refine ⟨fun k => T k ∨ v4.ownBlock = some k, ⟨hbel, .inl h.tg, .inl h.tb, h.gb, ?_, h.met.of (hblk b (hl b h.tb) (fun e => h.gb e.symm) hbne), h.nodup, vw, v4, wl, ?_, ?_, ?_, ?_, ?_, h6, ?_⟩, hk, ?_⟩
  · rintro k (hk1 | hk1)
    · exact ⟨(h.tw k hk1).1, Nat.lt_of_lt_of_le (h.tw k hk1).2 hk.size⟩
    · have := World.ownsRow.lt o4 k hk1
      exact ⟨this.1, by simpa using this.2⟩
  · rw [heapSet hg4]
    rfl
  · exact h2.of fun k e => hblk k (hl k (h4 k e).1) (h4 k e).2.1 (fun e2 => (h5 k e2.symm).2.2.2 e)
  · exact o4.of fun k e => hks.block k (World.ownsRow.lt o4 k e).2 (fun e2 => hv4g (by rw [e, e2]))
  · exact fun k e => ⟨.inl (h4 k e).1, (h4 k e).2⟩
  · intro k e
    refine ⟨.inr e, fun e2 => hv4g (by rw [e, e2]), fun e2 => hv4b (by rw [e, e2]), fun e2 => ?_⟩
    rcases b4 with e3 | e3
    · exact (h5 k (e3 ▸ e)).2.2.2 e2
    · rw [e3] at e; injection e with e; have := hl k (h4 k e2).1; omega
  · intro p hp
    have hpn := h7 p hp
    refine ⟨hpn.1.keep hpn.2 hk, fun a e h8 => ?_, hpn.2.2⟩
    rintro (h9 | h9)
    · exact hpn.2.1 a e h8 h9
    · rcases b4 with e3 | e3
      · exact hpn.2.1 a e h8 (h5 _ (e3 ▸ h9)).1
      · rw [e3] at h9
        injection h9 with h9
        have := SR.lt hpn.1 e h8
        omega
  · rintro k (h1 | h1)
    · exact .inl h1
    · rcases b4 with e | e
      · exact .inl (h5 k (e ▸ h1)).1
      · rw [e] at h1; injection h1 with h1; exact .inr (by omega)
theorem OwnG.front {w : World} {base bw c : Nat} {wl : List OpV} {o : OpV} (h : OwnG encO 2 125 w base (.slice (some ⟨bw, 0, none⟩) (wl.length + 1) c) (wl ++ [o])) : OwnG encO 2 125 w base (.slice (some ⟨bw, 0, none⟩) wl.length c) wl := by
  obtain ⟨h1, h2⟩ := h
  refine ⟨valsG_len encO_len wl, .inr ?_⟩
  rcases h2 with ⟨e, _⟩ | ⟨g, cap, cur, e, hg, hh, hc, hm, hs, ht⟩
  · simp at e
  · simp only [Value.slice.injEq, Option.some.injEq, Addr.mk.injEq, and_true, true_and] at e
    obtain ⟨rfl, _, rfl⟩ := e
    refine ⟨bw, c, cur, rfl, hg, hh, by rw [List.length_append] at hc; simp at hc; omega, hm, hs, ?_⟩
    rw [List.length_append, valsG_app, List.length_singleton, Nat.add_mul] at ht
    have := congrArg (List.take (wl.length * 2)) ht
    rw [List.take_take, Nat.min_eq_left (by omega), List.take_left' (valsG_len encO_len wl)] at this
    exact this
/-- behind the going of the last one that waits -/
theorem GI.pop {w0 w : World} {C : Gc} {g b : Nat} {s : Se} {T : Nat → Prop} (h : GI w0 C g b s T w) {bw c4 : Nat} {vd : Value} {wl : List OpV} {o : OpV}
    (h1 : w.heap[g]? = some (.cells (gcells C b (.slice (some ⟨bw, 0, none⟩) (wl.length + 1) c4) vd) 83))
    (h2 : OwnG encO 2 125 w w0.heap.size (.slice (some ⟨bw, 0, none⟩) (wl.length + 1) c4) (wl ++ [o]))
    (h3 : OwnS w w0.heap.size vd s.done) (h4 : T bw ∧ bw ≠ g ∧ bw ≠ b) (h5 : ∀ k, vd.ownBlock = some k → T k ∧ k ≠ g ∧ k ≠ b ∧ bw ≠ k)
    (h7 : ∀ o ∈ wl, SR w o.nd.1 o.nd.2.2 ∧ SNC (fun k => ¬ T k) o.nd) :
    GIP w0 C g b ⟨(wl.map oOf).reverse, s.met, s.done⟩ T w (w.setCell ⟨g, 4, none⟩ (.slice (some ⟨bw, 0, none⟩) wl.length c4)) := by
  have hl := fun k hk => (h.tw k hk).2
  have hks := kp_set (w := w) (g := g) (j := 4) (v := .slice (some ⟨bw, 0, none⟩) wl.length c4)
  have hk : Kp w (w.setCell ⟨g, 4, none⟩ (.slice (some ⟨bw, 0, none⟩) wl.length c4)) T := hks.mono fun k e => e ▸ h.tg
  refine ⟨T, ⟨hk.below h.below (Nat.le_refl _) (fun k hk => (h.tw k hk).1), h.tg, h.tb, h.gb, fun k hk1 => ⟨(h.tw k hk1).1, Nat.lt_of_lt_of_le (h.tw k hk1).2 hk.size⟩, h.met.of (hks.block b (hl b h.tb) (fun e => h.gb e.symm)), h.nodup,
    .slice (some ⟨bw, 0, none⟩) wl.length c4, vd, wl, ?_, (OwnG.front h2).of (fun k e => ?_), h3.of (fun k e => hks.block k (hl k (h5 k e).1) (h5 k e).2.1), ?_, ?_, rfl, ?_⟩, hk, fun k hk => .inl hk⟩
  · rw [heapSet h1]
    rfl
  · injection e with e
    subst e
    exact hks.block bw (hl bw h4.1) h4.2.1
  · intro k e
    injection e with e
    subst e
    exact h4
  · intro k e
    have := h5 k e
    exact ⟨this.1, this.2.1, this.2.2.1, fun e2 => this.2.2.2 (by injection e2)⟩
  · intro p hp
    exact ⟨(h7 p hp).1.keep (h7 p hp).2 hk, (h7 p hp).2⟩
end Go.Proofs.YtmblmenafplccaaGreatDoor
namespace Go.Proofs.YtmblmenafplccaaGreatDoor
open Go.RowKit Go.Deep Go.Maps Ln Pth Vf
set_option linter.unusedSimpArgs false
set_option linter.unusedVariables false

theorem GI.cells {w0 w : World} {C : Gc} {g b : Nat} {s : Se} {T : Nat → Prop} (h : GI w0 C g b s T w) : ∃ A4 c4 A6 c6, w.cell? ⟨g, 4, none⟩ = some (.slice A4 s.way.length c4) ∧ w.cell? ⟨g, 6, none⟩ = some (.slice A6 s.done.length c6) ∧ w.cell? ⟨g, 5, none⟩ = some (.map (some b)) ∧ (∀ j, w.frozen? ⟨g, j, none⟩ = false) ∧ SR w A6 s.done := by
  obtain ⟨A4, c4, A6, c6, wl, h1, h2, h3, h4, h5, h6, h7, h8, h9, h10⟩ := h.opn
  refine ⟨A4, c4, A6, c6, ?_, cellOf h1 (j := 6) rfl, cellOf h1 (j := 5) rfl, fun j => freeOf h1 j, ?_⟩
  · rw [way_len h6]; exact cellOf h1 (j := 4) rfl
  · obtain ⟨A, c, e, _, hs, _⟩ := h3.slice
    cases e
    exact hs
theorem GI.wl {w0 w : World} {C : Gc} {g b : Nat} {t : ByteArray} {ns : List ByteArray} {r : List Opn} {mt d : List ByteArray} {T : Nat → Prop} (h : GI w0 C g b ⟨(t, ns) :: r, mt, d⟩ T w) : ∃ (bw c4 : Nat) (A6 : Option Addr) (c6 : Nat) (wl0 : List OpV) (An : Option Addr) (cn : Nat),
    w.heap[g]? = some (.cells (gcells C b (.slice (some ⟨bw, 0, none⟩) (wl0.length + 1) c4) (.slice A6 d.length c6)) 83) ∧ OwnG encO 2 125 w w0.heap.size (.slice (some ⟨bw, 0, none⟩) (wl0.length + 1) c4) (wl0 ++ [⟨t, (An, cn, ns)⟩]) ∧ OwnS w w0.heap.size (.slice A6 d.length c6) d ∧
    (T bw ∧ bw ≠ g ∧ bw ≠ b) ∧ (∀ k, (Value.slice A6 d.length c6).ownBlock = some k → T k ∧ k ≠ g ∧ k ≠ b ∧ bw ≠ k) ∧ r = (wl0.map oOf).reverse ∧ (∀ o ∈ wl0, SR w o.nd.1 o.nd.2.2 ∧ SNC (fun k => ¬ T k) o.nd) ∧
    SR w An ns ∧ SNC (fun k => ¬ T k) (An, cn, ns) ∧ w.cell? ⟨bw, wl0.length * 2, none⟩ = some (.string t) ∧ w.cell? ⟨bw, wl0.length * 2 + 1, none⟩ = some (.slice An ns.length cn) ∧ w.frozen? ⟨bw, wl0.length * 2 + 1, none⟩ = false ∧ wl0.length + 1 ≤ c4 := by
  obtain ⟨A4, c4, A6, c6, wl, h1, h2, h3, h4, h5, h6, h7, h8, h9, h10⟩ := h.opn
  rcases List.eq_nil_or_concat wl with rfl | ⟨wl0, ov, e⟩
  · simp at h6
  rw [List.concat_eq_append] at e
  subst e
  obtain ⟨t', An, cn, N⟩ := ov
  dsimp only at h6
  rw [List.map_append, List.reverse_append] at h6
  simp only [List.map_cons, List.map_nil, List.reverse_cons, List.reverse_nil, List.nil_append, List.cons_append, oOf, List.cons.injEq, Prod.mk.injEq] at h6
  obtain ⟨⟨rfl, rfl⟩, rfl⟩ := h6
  obtain ⟨bw, ob, rfl, hbw, hco⟩ := h8 wl0.length ⟨t, (An, cn, ns)⟩ (by simp)
  obtain ⟨bw', e⟩ := h10 _ rfl
  injection e with e1 e2
  subst e1 e2
  have hco0 : w.cell? ⟨bw, wl0.length * 2, none⟩ = some (.string t) := by have := hco 0 _ rfl; simpa using this
  have hco1 : w.cell? ⟨bw, wl0.length * 2 + 1, none⟩ = some (.slice An ns.length cn) := by have := hco 1 _ rfl; simpa [sv] using this
  have hfr := World.ownsRow.frozenAt h2 (wl0.length * 2 + 1)
  rw [List.length_append, List.length_singleton] at h1 h2 h4 h5 h9
  have hl := h7 ⟨t, (An, cn, ns)⟩ (by simp)
  exact ⟨bw, c4, A6, c6, wl0, An, cn, h1, h2, h3, h4 bw rfl, fun k e => ⟨(h5 k e).1, (h5 k e).2.1, (h5 k e).2.2.1, fun e2 => (h5 k e).2.2.2 (by rw [e2]; rfl)⟩, rfl, fun o ho => h7 o (by simp [ho]), hl.1, hl.2, hco0, hco1, hfr, h9⟩
/-- the last one that waits -/
theorem GI.top {w0 w : World} {C : Gc} {g b : Nat} {t : ByteArray} {ns : List ByteArray} {r : List Opn} {mt d : List ByteArray} {T : Nat → Prop} (h : GI w0 C g b ⟨(t, ns) :: r, mt, d⟩ T w) : ∃ (bw c4 : Nat) (An : Option Addr) (cn : Nat),
    w.cell? ⟨g, 4, none⟩ = some (.slice (some ⟨bw, 0, none⟩) (r.length + 1) c4) ∧ bw ≠ g ∧ SR w An ns ∧ w.cell? ⟨bw, r.length * 2, none⟩ = some (.string t) ∧ w.cell? ⟨bw, r.length * 2 + 1, none⟩ = some (.slice An ns.length cn) ∧ w.frozen? ⟨bw, r.length * 2 + 1, none⟩ = false ∧ r.length + 1 ≤ c4 ∧ ns.length ≤ cn := by
  obtain ⟨bw, c4, A6, c6, wl0, An, cn, h1, h2, h3, h4, h5, rfl, h7, h8, h9, h10, h11, h12, h13⟩ := h.wl
  rw [List.length_reverse, List.length_map]
  exact ⟨bw, c4, An, cn, cellOf h1 (j := 4) rfl, h4.2.1, h8, h10, h11, h12, h13, h9.2⟩
theorem GI.pop_run {w0 w : World} {C : Gc} {g b : Nat} {t : ByteArray} {ns : List ByteArray} {r : List Opn} {mt d : List ByteArray} {T : Nat → Prop} (h : GI w0 C g b ⟨(t, ns) :: r, mt, d⟩ T w) {bw n c4 : Nat} (hc : w.cell? ⟨g, 4, none⟩ = some (.slice (some ⟨bw, 0, none⟩) n c4)) :
    GIP w0 C g b ⟨r, mt, d⟩ T w (w.setCell ⟨g, 4, none⟩ (.slice (some ⟨bw, 0, none⟩) r.length c4)) := by
  obtain ⟨bw', c4', A6, c6, wl0, An, cn, h1, h2, h3, h4, h5, rfl, h7, h8, h9, h10, h11, h12, h13⟩ := h.wl
  have e := (cellOf h1 (j := 4) rfl).symm.trans hc
  simp only [Option.some.injEq, Value.slice.injEq, Addr.mk.injEq, and_true, true_and] at e
  obtain ⟨rfl, rfl, rfl⟩ := e
  have := h.pop h1 h2 h3 h4 h5 h7
  rw [List.length_reverse, List.length_map]
  exact this
theorem GI.next_run {w0 w : World} {C : Gc} {g b : Nat} {t n : ByteArray} {ns : List ByteArray} {r : List Opn} {mt d : List ByteArray} {T : Nat → Prop} (h : GI w0 C g b ⟨(t, n :: ns) :: r, mt, d⟩ T w) {bw k c4 gs o l cn : Nat} (hc : w.cell? ⟨g, 4, none⟩ = some (.slice (some ⟨bw, 0, none⟩) k c4)) (hn : w.cell? ⟨bw, r.length * 2 + 1, none⟩ = some (.slice (some ⟨gs, o, none⟩) l cn)) {o' c' : Nat} (ho : ns = [] ∨ o' = o + 1) (hc' : ns.length ≤ c') :
    GIP w0 C g b ⟨(t, ns) :: r, mt, d⟩ T w (w.setCell ⟨bw, r.length * 2 + 1, none⟩ (.slice (some ⟨gs, o', none⟩) ns.length c')) := by
  obtain ⟨bw', c4', A6, c6, wl0, An, cn', h1, h2, h3, h4, h5, rfl, h7, h8, h9, h10, h11, h12, h13⟩ := h.wl
  have e := (cellOf h1 (j := 4) rfl).symm.trans hc
  simp only [Option.some.injEq, Value.slice.injEq, Addr.mk.injEq, and_true, true_and] at e
  obtain ⟨rfl, rfl, rfl⟩ := e
  rw [List.length_reverse, List.length_map] at hn ⊢
  have e := h11.symm.trans hn
  simp only [Option.some.injEq, Value.slice.injEq] at e
  obtain ⟨rfl, rfl, rfl⟩ := e
  have hs : SR w (some ⟨gs, o', none⟩) ns := by
    rcases ho with rfl | rfl
    · exact SR.nil _ _
    · have := h8.drop 1; simpa using this
  exact h.next (o' := ⟨t, (some ⟨gs, o', none⟩, c', ns)⟩) h1 h2 h3 h4 h5 h7 rfl hs ⟨fun a e h1 => by
    injection e with e
    subst e
    exact h9.1 ⟨gs, o, none⟩ rfl (by simp), hc'⟩
/-- the run of an append to what is done -/
theorem GI.fin_run {w0 w1 w2 : World} {C : Gc} {g b : Nat} {s : Se} {T : Nat → Prop} (h : GI w0 C g b s T w1) (hb : Below w1.heap.size w1 w2) {A6 : Option Addr} {n c6 bw k c4 : Nat} (hc6 : w1.cell? ⟨g, 6, none⟩ = some (.slice A6 n c6)) (hc4 : w1.cell? ⟨g, 4, none⟩ = some (.slice (some ⟨bw, 0, none⟩) k c4)) (hn : n ≤ 1000) (x : ByteArray) :
    ∃ A9 c9 w4, (Builtin.append_ #[28, 28] 28 #[.slice A6 n c6, .slice (some ⟨w2.heap.size, 0, none⟩) 1 1]).run Tryz.prog (w2.alloc (.cells #[.string x] 9)) = .ok (.slice A9 (n + 1) c9) w4 ∧
      (w4.cell? ⟨g, 6, none⟩ = some (.slice A6 n c6) ∧ w4.frozen? ⟨g, 6, none⟩ = false) ∧ (∀ j v, w1.cell? ⟨bw, j, none⟩ = some v → w4.cell? ⟨bw, j, none⟩ = some v ∧ (w4.setCell ⟨g, 6, none⟩ (.slice A9 (n + 1) c9)).cell? ⟨bw, j, none⟩ = some v) ∧
      ((w4.setCell ⟨g, 6, none⟩ (.slice A9 (n + 1) c9)).cell? ⟨g, 4, none⟩ = some (.slice (some ⟨bw, 0, none⟩) k c4) ∧ (w4.setCell ⟨g, 6, none⟩ (.slice A9 (n + 1) c9)).frozen? ⟨g, 4, none⟩ = false) ∧
      GIP w0 C g b ⟨s.way, s.met, s.done ++ [x]⟩ T w1 (w4.setCell ⟨g, 6, none⟩ (.slice A9 (n + 1) c9)) := by
  have hba := hb.alloc hb.size (.cells #[.string x] 9)
  have h3 := h.step hba
  obtain ⟨A4', c4', A6', c6', wl, h1, h2, h3', h4, h5, h6, h7, h8, h9, h10⟩ := h3.opn
  have hgl := (h.tw g h.tg).2
  have e := (cellOf h1 (j := 6) (v := .slice A6' s.done.length c6') rfl).symm.trans ((hba.cell (p := ⟨g, 6, none⟩) hgl).trans hc6)
  simp only [Option.some.injEq, Value.slice.injEq] at e
  obtain ⟨rfl, rfl, rfl⟩ := e
  have e := (cellOf h1 (j := 4) (v := .slice A4' wl.length c4') rfl).symm.trans ((hba.cell (p := ⟨g, 4, none⟩) hgl).trans hc4)
  simp only [Option.some.injEq, Value.slice.injEq] at e
  obtain ⟨rfl, rfl, rfl⟩ := e
  have hN : SR (w2.alloc (.cells #[.string x] 9)) (some ⟨w2.heap.size, 0, none⟩) [x] := sr_new w2 x
  obtain ⟨v4, w4, hrun, ho, hg, hv⟩ := run_appS (c := 1) h3' hN h3.below.size (by simp; omega)
  obtain ⟨A9, c9, e9, _, _, _⟩ := ho.slice
  rw [List.length_append, List.length_singleton] at e9
  subst e9
  have hgne : some g ≠ (Value.slice A6' s.done.length c6').ownBlock := fun e => (h5 g e.symm).2.1 rfl
  have hbw := h4 bw rfl
  have hbne : some bw ≠ (Value.slice A6' s.done.length c6').ownBlock := fun e => (h5 bw e.symm).2.2.2 rfl
  have hbl := (h.tw bw hbw.1).2
  have hg4 := (hg.block g (by have := hba.size; omega) hgne).trans h1
  have hg5 := heapSet (j := 6) hg4 (.slice A9 (s.done.length + 1) c9)
  have hbk : w4.heap[bw]? = w1.heap[bw]? := (hg.block bw (by have := hba.size; omega) hbne).trans (hba.block bw hbl)
  have hks := kp_set (w := w4) (g := g) (j := 6) (v := .slice A9 (s.done.length + 1) c9)
  have hw : GIP w0 C g b ⟨s.way, s.met, s.done ++ [x]⟩ T (w2.alloc (.cells #[.string x] 9)) (w4.setCell ⟨g, 6, none⟩ (.slice A9 (s.done.length + 1) c9)) := h3.fin h1 h2 h4 h5 h6 h7 ho hg hv
  refine ⟨A9, c9, w4, hrun, ⟨cellOf hg4 (j := 6) rfl, freeOf hg4 6⟩, fun j v hj => ?_, ⟨cellOf hg5 (j := 4) rfl, freeOf hg5 4⟩, ?_⟩
  · have h1 := (World.cell?_of_block (a := ⟨bw, j, none⟩) hbk).trans hj
    exact ⟨h1, hks.cell h1 hbw.2.1⟩
  · obtain ⟨T', f, k, gr⟩ := hw
    exact ⟨T', f, (Kp.of_below hba T).trans (k.mono fun q hq => .inl hq), fun q hq => (gr q hq).imp_right (Nat.le_trans hba.size)⟩
theorem GIP.glue {w0 w wz w' : World} {C : Gc} {g b : Nat} {s : Se} {T T2 : Nat → Prop} (hk : Kp w wz T ∧ ∀ k, T2 k → T k ∨ w.heap.size ≤ k) (h : GIP w0 C g b s T2 wz w') : GIP w0 C g b s T w w' := by
  obtain ⟨T', f, k, gr⟩ := h
  refine ⟨T', f, hk.1.trans (k.mono hk.2), fun q hq => ?_⟩
  rcases gr q hq with h | h
  · exact hk.2 q h
  · exact .inr (Nat.le_trans hk.1.size h)
theorem GIP.drew {w0 w w' : World} {C : Gc} {g b : Nat} {s : Se} {T : Nat → Prop} (h : GIP w0 C g b s T w w') : GIP w0 C g b s T w w'.drew := h.trans fun _ f => f.toP (Below.refl _ _).drew
end Go.Proofs.YtmblmenafplccaaGreatDoor
