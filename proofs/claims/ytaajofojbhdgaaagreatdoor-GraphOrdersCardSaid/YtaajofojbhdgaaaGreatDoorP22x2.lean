/- Walks and plain facts that the claim uses. -/
import Derived.Test.YtaajofojbhdgaaaGreatDoorP22x1
import Derived.Deep.RegionHeld3
import Derived.Deep.LoopGhost
import Derived.IntWalk
import Derived.Lib.IndexBytes
set_option maxRecDepth 100000
set_option maxHeartbeats 16000000
set_option linter.unusedSimpArgs false
set_option linter.unusedVariables false
namespace Go.Proofs.YtaajofojbhdgaaaGreatDoor
section
open Go.RowKit Go.Deep Go.Maps Ln Pth Vf
structure OpV where
 t : ByteArray
 nd : SRow
def encO (o : OpV) : List Value := [.string o.t, sv o.nd]
theorem encO_len (o : OpV) : (encO o).length = 2 := rfl
theorem encO_one (o : OpV) : ∀ u ∈ encO o, u.oneCell' = true := by
 intro u hu
 simp only [encO, sv, List.mem_cons, List.not_mem_nil, or_false] at hu
 rcases hu with rfl | rfl <;> rfl
def oOf (o : OpV) : Opn := (o.t, o.nd.2.2)
def rowO : RowT Tryz.prog 76 121 2 := { z := .agg #[.string ⟨#[]⟩, .slice none 0 0], bytes := 40, und := Tryz.underlying76, info := by kernel_rfl, zlen := rfl, pos := by omega, sb := by omega }
structure Gc where
 v0 : Value
 v1 : Value
 gf : Nat
 cwd : ByteArray
def gcells (C : Gc) (b : Nat) (vw vd : Value) : Array Value := #[C.v0, C.v1, .pointer (some ⟨C.gf, 0, none⟩), .string C.cwd, vw, .map (some b), vd]
def SNC (N : Nat → Prop) (x : SRow) : Prop := SN N x ∧ x.2.2.length ≤ x.2.1
structure GI (w0 : World) (C : Gc) (g b : Nat) (s : Se) (T : Nat → Prop) (w : World) : Prop where
 below : Below w0.heap.size w0 w
 tg : T g
 tb : T b
 gb : g ≠ b
 tw : ∀ k, T k → w0.heap.size ≤ k ∧ k < w.heap.size
 met : MSet w b s.met
 nodup : s.met.Nodup
 body : ∃ vw vd wl, w.heap[g]? = some (.cells (gcells C b vw vd) 78) ∧ OwnG encO 2 121 w w0.heap.size vw wl ∧ OwnS w w0.heap.size vd s.done ∧
   (∀ k, vw.ownBlock = some k → T k ∧ k ≠ g ∧ k ≠ b) ∧ (∀ k, vd.ownBlock = some k → T k ∧ k ≠ g ∧ k ≠ b ∧ vw.ownBlock ≠ some k) ∧
   s.way = (wl.map oOf).reverse ∧ ∀ o ∈ wl, SR w o.nd.1 o.nd.2.2 ∧ SNC (fun k => ¬ T k) o.nd
def GIP (w0 : World) (C : Gc) (g b : Nat) (s : Se) (T : Nat → Prop) (w w' : World) : Prop := ∃ T', GI w0 C g b s T' w' ∧ Kp w w' T ∧ ∀ k, T' k → T k ∨ w.heap.size ≤ k
theorem SR.keep {w w' : World} {x : SRow} {T : Nat → Prop} (h : SR w x.1 x.2.2) (hn : SNC (fun k => ¬ T k) x) (hk : Kp w w' T) : SR w' x.1 x.2.2 := hk.sr h fun a e h1 => hn.1 a e h1
theorem GI.step {w0 w w' : World} {C : Gc} {g b : Nat} {s : Se} {T : Nat → Prop} (h : GI w0 C g b s T w) (hb : Below w.heap.size w w') : GI w0 C g b s T w' := by
 obtain ⟨vw, vd, wl, h1, h2, h3, h4, h5, h6, h7⟩ := h.body
 have hl := fun k hk => (h.tw k hk).2
 exact ⟨below_up h.below hb h.below.size, h.tg, h.tb, h.gb, fun k hk => ⟨(h.tw k hk).1, Nat.lt_of_lt_of_le (h.tw k hk).2 hb.size⟩, h.met.of (hb.block b (hl b h.tb)), h.nodup,
   vw, vd, wl, (hb.block g (hl g h.tg)).trans h1, h2.of (fun k e => hb.block k (hl k (h4 k e).1)), h3.of (fun k e => hb.block k (hl k (h5 k e).1)), h4, h5, h6, fun o ho => ⟨(h7 o ho).1.below hb, (h7 o ho).2⟩⟩
theorem GI.toP {w0 w w' : World} {C : Gc} {g b : Nat} {s : Se} {T : Nat → Prop} (h : GI w0 C g b s T w) (hb : Below w.heap.size w w') : GIP w0 C g b s T w w' :=
 ⟨T, h.step hb, Kp.of_below hb T, fun _ hk => .inl hk⟩
theorem GIP.trans {w0 w w' w'' : World} {C : Gc} {g b : Nat} {s s' : Se} {T : Nat → Prop} (h : GIP w0 C g b s T w w') (h2 : ∀ T', GI w0 C g b s T' w' → GIP w0 C g b s' T' w' w'') : GIP w0 C g b s' T w w'' := by
 obtain ⟨T', f, k, gr⟩ := h
 obtain ⟨T2, f2, k2, gr2⟩ := h2 T' f
 refine ⟨T2, f2, k.trans (k2.mono gr), fun q hq => ?_⟩
 rcases gr2 q hq with h | h
 · exact gr q h
 · exact .inr (Nat.le_trans k.size h)
theorem GIP.below {w0 w w' : World} {C : Gc} {g b : Nat} {s : Se} {T : Nat → Prop} (h : GIP w0 C g b s T w w') : Below w0.heap.size w0 w' := by
 obtain ⟨T', f, _, _⟩ := h; exact f.below
theorem GI.opn {w0 w : World} {C : Gc} {g b : Nat} {s : Se} {T : Nat → Prop} (h : GI w0 C g b s T w) : ∃ (A4 : Option Addr) (c4 : Nat) (A6 : Option Addr) (c6 : Nat) (wl : List OpV),
   w.heap[g]? = some (.cells (gcells C b (.slice A4 wl.length c4) (.slice A6 s.done.length c6)) 78) ∧ OwnG encO 2 121 w w0.heap.size (.slice A4 wl.length c4) wl ∧ OwnS w w0.heap.size (.slice A6 s.done.length c6) s.done ∧
   (∀ k, (Value.slice A4 wl.length c4).ownBlock = some k → T k ∧ k ≠ g ∧ k ≠ b) ∧ (∀ k, (Value.slice A6 s.done.length c6).ownBlock = some k → T k ∧ k ≠ g ∧ k ≠ b ∧ (Value.slice A4 wl.length c4).ownBlock ≠ some k) ∧
   s.way = (wl.map oOf).reverse ∧ (∀ o ∈ wl, SR w o.nd.1 o.nd.2.2 ∧ SNC (fun k => ¬ T k) o.nd) ∧ RG encO 2 w A4 wl ∧ wl.length ≤ c4 ∧ (∀ a, A4 = some a → ∃ g, a = ⟨g, 0, none⟩) := by
 obtain ⟨vw, vd, wl, h1, h2, h3, h4, h5, h6, h7⟩ := h.body
 obtain ⟨A4, c4, rfl, l4, s4, _, z4⟩ := h2.slice encO_len
 obtain ⟨A6, c6, rfl, _, s6, _⟩ := h3.slice
 exact ⟨A4, c4, A6, c6, wl, h1, h2, h3, h4, h5, h6, h7, s4, l4, z4⟩
theorem way_len {s : Se} {wl : List OpV} (h : s.way = (wl.map oOf).reverse) : s.way.length = wl.length := by rw [h]; simp
theorem GI.meet {w0 w w' : World} {C : Gc} {g b : Nat} {s : Se} {T : Nat → Prop} (h : GI w0 C g b s T w) {x : ByteArray} (hx : x ∉ s.met) (hm : MSet w' b (s.met ++ [x])) (hk : Kp w w' (fun k => k = b)) (hz : w'.heap.size = w.heap.size) : GI w0 C g b ⟨s.way, s.met ++ [x], s.done⟩ T w' := by
 obtain ⟨vw, vd, wl, h1, h2, h3, h4, h5, h6, h7⟩ := h.body
 have hl := fun k hk => (h.tw k hk).2
 refine ⟨hk.below h.below (Nat.le_refl _) (fun k e => by subst e; exact (h.tw _ h.tb).1), h.tg, h.tb, h.gb, fun k hk => ⟨(h.tw k hk).1, by rw [hz]; exact hl k hk⟩, hm, ?_, vw, vd, wl, (hk.block g (hl g h.tg) h.gb).trans h1, h2.of (fun k e => hk.block k (hl k (h4 k e).1) (h4 k e).2.2), h3.of (fun k e => hk.block k (hl k (h5 k e).1) (h5 k e).2.2.1), h4, h5, h6, fun o ho => ⟨?_, (h7 o ho).2⟩⟩
 · rw [List.nodup_append]
   exact ⟨h.nodup, by simp, fun a ha c hc => by rw [List.mem_singleton.1 hc]; rintro rfl; exact hx ha⟩
 · exact (h7 o ho).1.keep (h7 o ho).2 (hk.mono fun k e => e ▸ h.tb)
theorem GI.push {w0 w w4 : World} {C : Gc} {g b : Nat} {s : Se} {T : Nat → Prop} (h : GI w0 C g b s T w) {A4 : Option Addr} {c4 : Nat} {A6 : Option Addr} {c6 : Nat} {wl : List OpV} {v4 : Value} {o : OpV}
   (h1 : w.heap[g]? = some (.cells (gcells C b (.slice A4 wl.length c4) (.slice A6 s.done.length c6)) 78))
   (h3 : OwnS w w0.heap.size (.slice A6 s.done.length c6) s.done) (h4 : ∀ k, (Value.slice A4 wl.length c4).ownBlock = some k → T k ∧ k ≠ g ∧ k ≠ b) (h5 : ∀ k, (Value.slice A6 s.done.length c6).ownBlock = some k → T k ∧ k ≠ g ∧ k ≠ b ∧ (Value.slice A4 wl.length c4).ownBlock ≠ some k)
   (h6 : s.way = (wl.map oOf).reverse) (h7 : ∀ o ∈ wl, SR w o.nd.1 o.nd.2.2 ∧ SNC (fun k => ¬ T k) o.nd) (ho : SR w o.nd.1 o.nd.2.2) (hn : SNC (fun k => ¬ T k) o.nd)
   (o4 : OwnG encO 2 121 w4 w0.heap.size v4 (wl ++ [o])) (g4 : w.grownBy w4 (Value.slice A4 wl.length c4).ownBlock) (b4 : v4.ownBlock = (Value.slice A4 wl.length c4).ownBlock ∨ v4.ownBlock = some w.heap.size) :
   GIP w0 C g b ⟨oOf o :: s.way, s.met, s.done⟩ T w (w4.setCell ⟨g, 4, none⟩ v4) := by
 have hl := fun k hk => (h.tw k hk).2
 have hgl := hl g h.tg
 have hk4 : Kp w w4 T := ⟨g4.os, g4.tape, g4.output, g4.size, fun k hk hn => g4.block k hk (fun e => hn (h4 k e.symm).1)⟩
 have hks := kp_set (w := w4) (g := g) (j := 4) (v := v4)
 have hk : Kp w (w4.setCell ⟨g, 4, none⟩ v4) T := hk4.trans (hks.mono fun k e => .inl (e ▸ h.tg))
 have hgne : some g ≠ (Value.slice A4 wl.length c4).ownBlock := fun e => (h4 g e.symm).2.1 rfl
 have hbne : some b ≠ (Value.slice A4 wl.length c4).ownBlock := fun e => (h4 b e.symm).2.2 rfl
 have hg4 := (g4.block g hgl hgne).trans h1
 have hv4g : v4.ownBlock ≠ some g := by
   rcases b4 with e | e
   · rw [e]; exact fun e => hgne e.symm
   · rw [e]; intro h2; injection h2 with h2; omega
 have hv4b : v4.ownBlock ≠ some b := by
   rcases b4 with e | e
   · rw [e]; exact fun e => hbne e.symm
   · rw [e]; intro h2; injection h2 with h2; have := hl b h.tb; omega
 have hbel : Below w0.heap.size w0 (w4.setCell ⟨g, 4, none⟩ v4) := hk.below h.below (Nat.le_refl _) (fun k hk => (h.tw k hk).1)
 have hblk : ∀ k, k < w.heap.size → k ≠ g → some k ≠ (Value.slice A4 wl.length c4).ownBlock → (w4.setCell ⟨g, 4, none⟩ v4).heap[k]? = w.heap[k]? := fun k hk h1 h2 => (hks.block k (Nat.lt_of_lt_of_le hk g4.size) h1).trans (g4.block k hk h2)
 refine ⟨fun k => T k ∨ v4.ownBlock = some k, ⟨hbel, .inl h.tg, .inl h.tb, h.gb, ?_, h.met.of (hblk b (hl b h.tb) (fun e => h.gb e.symm) hbne), h.nodup, v4, .slice A6 s.done.length c6, wl ++ [o], ?_, ?_, ?_, ?_, ?_, ?_, ?_⟩, hk, ?_⟩
 · rintro k (hk1 | hk1)
   · exact ⟨(h.tw k hk1).1, Nat.lt_of_lt_of_le (h.tw k hk1).2 hk.size⟩
   · have := World.ownsRow.lt o4 k hk1
     exact ⟨this.1, by simpa using this.2⟩
 · rw [heapSet hg4]
   rfl
 · exact o4.of fun k e => hks.block k (World.ownsRow.lt o4 k e).2 (fun e2 => hv4g (by rw [e, e2]))
 · exact h3.of fun k e => hblk k (hl k (h5 k e).1) (h5 k e).2.1 (fun e2 => (h5 k e).2.2.2 e2.symm)
 · intro k e
   refine ⟨.inr e, fun e2 => hv4g (by rw [e, e2]), fun e2 => hv4b (by rw [e, e2])⟩
 · intro k e
   have h8 := h5 k e
   refine ⟨.inl h8.1, h8.2.1, h8.2.2.1, fun e2 => ?_⟩
   rcases b4 with e3 | e3
   · exact h8.2.2.2 (e3 ▸ e2)
   · rw [e3] at e2; injection e2 with e2; have := hl k h8.1; omega
 · simp [h6]
 · intro p hp
   have hpn : SR w p.nd.1 p.nd.2.2 ∧ SNC (fun k => ¬ T k) p.nd := by
     rcases List.mem_append.1 hp with hp | hp
     · exact h7 p hp
     · rw [List.mem_singleton.1 hp]; exact ⟨ho, hn⟩
   refine ⟨hpn.1.keep hpn.2 hk, fun a e h8 => ?_, hpn.2.2⟩
   rintro (h9 | h9)
   · exact hpn.2.1 a e h8 h9
   · rcases b4 with e3 | e3
     · exact hpn.2.1 a e h8 (h4 _ (e3 ▸ h9)).1
     · rw [e3] at h9
       injection h9 with h9
       have := SR.lt hpn.1 e h8
       omega
 · rintro k (h1 | h1)
   · exact .inl h1
   · rcases b4 with e | e
     · exact .inl (h4 k (e ▸ h1)).1
     · rw [e] at h1; injection h1 with h1; exact .inr (by omega)
theorem valsG_snoc {wl : List OpV} {o o' : OpV} (h : o.t = o'.t) : (valsG encO (wl ++ [o])).set (wl.length * 2 + 1) (sv o'.nd) = valsG encO (wl ++ [o']) := by
 rw [valsG_app, valsG_app, List.set_append_right _ _ (by rw [valsG_len encO_len]; omega), valsG_len encO_len, show wl.length * 2 + 1 - wl.length * 2 = 1 by omega]
 simp [valsG, encO, h]
theorem GI.next {w0 w : World} {C : Gc} {g b : Nat} {s : Se} {T : Nat → Prop} (h : GI w0 C g b s T w) {bw c4 : Nat} {A6 : Option Addr} {c6 : Nat} {wl : List OpV} {o o' : OpV}
   (h1 : w.heap[g]? = some (.cells (gcells C b (.slice (some ⟨bw, 0, none⟩) (wl.length + 1) c4) (.slice A6 s.done.length c6)) 78))
   (h2 : OwnG encO 2 121 w w0.heap.size (.slice (some ⟨bw, 0, none⟩) (wl.length + 1) c4) (wl ++ [o]))
   (h3 : OwnS w w0.heap.size (.slice A6 s.done.length c6) s.done) (h4 : T bw ∧ bw ≠ g ∧ bw ≠ b) (h5 : ∀ k, (Value.slice A6 s.done.length c6).ownBlock = some k → T k ∧ k ≠ g ∧ k ≠ b ∧ bw ≠ k)
   (h7 : ∀ o ∈ wl, SR w o.nd.1 o.nd.2.2 ∧ SNC (fun k => ¬ T k) o.nd) (ht : o.t = o'.t) (ho : SR w o'.nd.1 o'.nd.2.2) (hn : SNC (fun k => ¬ T k) o'.nd) :
   GIP w0 C g b ⟨oOf o' :: (wl.map oOf).reverse, s.met, s.done⟩ T w (w.setCell ⟨bw, wl.length * 2 + 1, none⟩ (sv o'.nd)) := by
 have hl := fun k hk => (h.tw k hk).2
 have hks := kp_set (w := w) (g := bw) (j := wl.length * 2 + 1) (v := sv o'.nd)
 have hk : Kp w (w.setCell ⟨bw, wl.length * 2 + 1, none⟩ (sv o'.nd)) T := hks.mono fun k e => e ▸ h4.1
 obtain ⟨hst, _⟩ := World.ownsRow.stored (show w.ownsRow w0.heap.size 121 2 (.slice (some ⟨bw, 0, none⟩) (wl.length + 1) c4) (wl.length + 1) (valsG encO (wl ++ [o])) from by
   have := h2
   unfold OwnG at this
   rw [List.length_append] at this
   exact this) (wl.length * 2 + 1) (sv o'.nd)
 rw [valsG_snoc ht] at hst
 refine ⟨T, ⟨hk.below h.below (Nat.le_refl _) (fun k hk => (h.tw k hk).1), h.tg, h.tb, h.gb, fun k hk1 => ⟨(h.tw k hk1).1, Nat.lt_of_lt_of_le (h.tw k hk1).2 hk.size⟩, h.met.of (hks.block b (hl b h.tb) (fun e => h4.2.2 e.symm)), h.nodup,
   .slice (some ⟨bw, 0, none⟩) (wl.length + 1) c4, .slice A6 s.done.length c6, wl ++ [o'], (hks.block g (hl g h.tg) (fun e => h4.2.1 e.symm)).trans h1, ?_, h3.of (fun k e => hks.block k (hl k (h5 k e).1) (fun e2 => (h5 k e).2.2.2 e2.symm)), ?_, ?_, ?_, ?_⟩, hk, fun k hk => .inl hk⟩
 · unfold OwnG
   rw [List.length_append]
   exact hst
 · intro k e
   injection e with e
   subst e
   exact h4
 · intro k e
   have := h5 k e
   exact ⟨this.1, this.2.1, this.2.2.1, fun e2 => this.2.2.2 (by injection e2)⟩
 · simp
 · intro p hp
   have hpn : SR w p.nd.1 p.nd.2.2 ∧ SNC (fun k => ¬ T k) p.nd := by
     rcases List.mem_append.1 hp with hp | hp
     · exact h7 p hp
     · rw [List.mem_singleton.1 hp]; exact ⟨ho, hn⟩
   exact ⟨hpn.1.keep hpn.2 hk, hpn.2⟩
theorem GI.fin {w0 w w4 : World} {C : Gc} {g b : Nat} {s : Se} {T : Nat → Prop} (h : GI w0 C g b s T w) {vw : Value} {A6 : Option Addr} {c6 : Nat} {wl : List OpV} {v4 : Value} {x : ByteArray}
   (h1 : w.heap[g]? = some (.cells (gcells C b vw (.slice A6 s.done.length c6)) 78)) (h2 : OwnG encO 2 121 w w0.heap.size vw wl)
   (h4 : ∀ k, vw.ownBlock = some k → T k ∧ k ≠ g ∧ k ≠ b) (h5 : ∀ k, (Value.slice A6 s.done.length c6).ownBlock = some k → T k ∧ k ≠ g ∧ k ≠ b ∧ vw.ownBlock ≠ some k)
   (h6 : s.way = (wl.map oOf).reverse) (h7 : ∀ o ∈ wl, SR w o.nd.1 o.nd.2.2 ∧ SNC (fun k => ¬ T k) o.nd)
   (o4 : OwnS w4 w0.heap.size v4 (s.done ++ [x])) (g4 : w.grownBy w4 (Value.slice A6 s.done.length c6).ownBlock) (b4 : v4.ownBlock = (Value.slice A6 s.done.length c6).ownBlock ∨ v4.ownBlock = some w.heap.size) :
   GIP w0 C g b ⟨s.way, s.met, s.done ++ [x]⟩ T w (w4.setCell ⟨g, 6, none⟩ v4) := by
 have hl := fun k hk => (h.tw k hk).2
 have hgl := hl g h.tg
 have hk4 : Kp w w4 T := ⟨g4.os, g4.tape, g4.output, g4.size, fun k hk hn => g4.block k hk (fun e => hn (h5 k e.symm).1)⟩
 have hks := kp_set (w := w4) (g := g) (j := 6) (v := v4)
 have hk : Kp w (w4.setCell ⟨g, 6, none⟩ v4) T := hk4.trans (hks.mono fun k e => .inl (e ▸ h.tg))
 have hgne : some g ≠ (Value.slice A6 s.done.length c6).ownBlock := fun e => (h5 g e.symm).2.1 rfl
 have hbne : some b ≠ (Value.slice A6 s.done.length c6).ownBlock := fun e => (h5 b e.symm).2.2.1 rfl
 have hg4 := (g4.block g hgl hgne).trans h1
 have hv4g : v4.ownBlock ≠ some g := by
   rcases b4 with e | e
   · rw [e]; exact fun e => hgne e.symm
   · rw [e]; intro h2; injection h2 with h2; omega
 have hv4b : v4.ownBlock ≠ some b := by
   rcases b4 with e | e
   · rw [e]; exact fun e => hbne e.symm
   · rw [e]; intro h2; injection h2 with h2; have := hl b h.tb; omega
 have hbel : Below w0.heap.size w0 (w4.setCell ⟨g, 6, none⟩ v4) := hk.below h.below (Nat.le_refl _) (fun k hk => (h.tw k hk).1)
 have hblk : ∀ k, k < w.heap.size → k ≠ g → some k ≠ (Value.slice A6 s.done.length c6).ownBlock → (w4.setCell ⟨g, 6, none⟩ v4).heap[k]? = w.heap[k]? := fun k hk h1 h2 => (hks.block k (Nat.lt_of_lt_of_le hk g4.size) h1).trans (g4.block k hk h2)
 refine ⟨fun k => T k ∨ v4.ownBlock = some k, ⟨hbel, .inl h.tg, .inl h.tb, h.gb, ?_, h.met.of (hblk b (hl b h.tb) (fun e => h.gb e.symm) hbne), h.nodup, vw, v4, wl, ?_, ?_, ?_, ?_, ?_, h6, ?_⟩, hk, ?_⟩
 · rintro k (hk1 | hk1)
   · exact ⟨(h.tw k hk1).1, Nat.lt_of_lt_of_le (h.tw k hk1).2 hk.size⟩
   · have := World.ownsRow.lt o4 k hk1
     exact ⟨this.1, by simpa using this.2⟩
 · rw [heapSet hg4]
   rfl
 · exact h2.of fun k e => hblk k (hl k (h4 k e).1) (h4 k e).2.1 (fun e2 => (h5 k e2.symm).2.2.2 e)
 · exact o4.of fun k e => hks.block k (World.ownsRow.lt o4 k e).2 (fun e2 => hv4g (by rw [e, e2]))
 · exact fun k e => ⟨.inl (h4 k e).1, (h4 k e).2⟩
 · intro k e
   refine ⟨.inr e, fun e2 => hv4g (by rw [e, e2]), fun e2 => hv4b (by rw [e, e2]), fun e2 => ?_⟩
   rcases b4 with e3 | e3
   · exact (h5 k (e3 ▸ e)).2.2.2 e2
   · rw [e3] at e; injection e with e; have := hl k (h4 k e2).1; omega
 · intro p hp
   have hpn := h7 p hp
   refine ⟨hpn.1.keep hpn.2 hk, fun a e h8 => ?_, hpn.2.2⟩
   rintro (h9 | h9)
   · exact hpn.2.1 a e h8 h9
   · rcases b4 with e3 | e3
     · exact hpn.2.1 a e h8 (h5 _ (e3 ▸ h9)).1
     · rw [e3] at h9
       injection h9 with h9
       have := SR.lt hpn.1 e h8
       omega
 · rintro k (h1 | h1)
   · exact .inl h1
   · rcases b4 with e | e
     · exact .inl (h5 k (e ▸ h1)).1
     · rw [e] at h1; injection h1 with h1; exact .inr (by omega)
theorem OwnG.front {w : World} {base bw c : Nat} {wl : List OpV} {o : OpV} (h : OwnG encO 2 121 w base (.slice (some ⟨bw, 0, none⟩) (wl.length + 1) c) (wl ++ [o])) : OwnG encO 2 121 w base (.slice (some ⟨bw, 0, none⟩) wl.length c) wl := by
 obtain ⟨h1, h2⟩ := h
 refine ⟨valsG_len encO_len wl, .inr ?_⟩
 rcases h2 with ⟨e, _⟩ | ⟨g, cap, cur, e, hg, hh, hc, hm, hs, ht⟩
 · simp at e
 · simp only [Value.slice.injEq, Option.some.injEq, Addr.mk.injEq, and_true, true_and] at e
   obtain ⟨rfl, _, rfl⟩ := e
   refine ⟨bw, c, cur, rfl, hg, hh, by rw [List.length_append] at hc; simp at hc; omega, hm, hs, ?_⟩
   rw [List.length_append, valsG_app, List.length_singleton, Nat.add_mul] at ht
   have := congrArg (List.take (wl.length * 2)) ht
   rw [List.take_take, Nat.min_eq_left (by omega), List.take_left' (valsG_len encO_len wl)] at this
   exact this
theorem GI.pop {w0 w : World} {C : Gc} {g b : Nat} {s : Se} {T : Nat → Prop} (h : GI w0 C g b s T w) {bw c4 : Nat} {vd : Value} {wl : List OpV} {o : OpV}
   (h1 : w.heap[g]? = some (.cells (gcells C b (.slice (some ⟨bw, 0, none⟩) (wl.length + 1) c4) vd) 78))
   (h2 : OwnG encO 2 121 w w0.heap.size (.slice (some ⟨bw, 0, none⟩) (wl.length + 1) c4) (wl ++ [o]))
   (h3 : OwnS w w0.heap.size vd s.done) (h4 : T bw ∧ bw ≠ g ∧ bw ≠ b) (h5 : ∀ k, vd.ownBlock = some k → T k ∧ k ≠ g ∧ k ≠ b ∧ bw ≠ k)
   (h7 : ∀ o ∈ wl, SR w o.nd.1 o.nd.2.2 ∧ SNC (fun k => ¬ T k) o.nd) :
   GIP w0 C g b ⟨(wl.map oOf).reverse, s.met, s.done⟩ T w (w.setCell ⟨g, 4, none⟩ (.slice (some ⟨bw, 0, none⟩) wl.length c4)) := by
 have hl := fun k hk => (h.tw k hk).2
 have hks := kp_set (w := w) (g := g) (j := 4) (v := .slice (some ⟨bw, 0, none⟩) wl.length c4)
 have hk : Kp w (w.setCell ⟨g, 4, none⟩ (.slice (some ⟨bw, 0, none⟩) wl.length c4)) T := hks.mono fun k e => e ▸ h.tg
 refine ⟨T, ⟨hk.below h.below (Nat.le_refl _) (fun k hk => (h.tw k hk).1), h.tg, h.tb, h.gb, fun k hk1 => ⟨(h.tw k hk1).1, Nat.lt_of_lt_of_le (h.tw k hk1).2 hk.size⟩, h.met.of (hks.block b (hl b h.tb) (fun e => h.gb e.symm)), h.nodup,
   .slice (some ⟨bw, 0, none⟩) wl.length c4, vd, wl, ?_, (OwnG.front h2).of (fun k e => ?_), h3.of (fun k e => hks.block k (hl k (h5 k e).1) (h5 k e).2.1), ?_, ?_, rfl, ?_⟩, hk, fun k hk => .inl hk⟩
 · rw [heapSet h1]
   rfl
 · injection e with e
   subst e
   exact hks.block bw (hl bw h4.1) h4.2.1
 · intro k e
   injection e with e
   subst e
   exact h4
 · intro k e
   have := h5 k e
   exact ⟨this.1, this.2.1, this.2.2.1, fun e2 => this.2.2.2 (by injection e2)⟩
 · intro p hp
   exact ⟨(h7 p hp).1.keep (h7 p hp).2 hk, (h7 p hp).2⟩
end
section
open Go.RowKit Go.Deep Go.Maps Ln Pth Vf
theorem GI.cells {w0 w : World} {C : Gc} {g b : Nat} {s : Se} {T : Nat → Prop} (h : GI w0 C g b s T w) : ∃ A4 c4 A6 c6, w.cell? ⟨g, 4, none⟩ = some (.slice A4 s.way.length c4) ∧ w.cell? ⟨g, 6, none⟩ = some (.slice A6 s.done.length c6) ∧ w.cell? ⟨g, 5, none⟩ = some (.map (some b)) ∧ (∀ j, w.frozen? ⟨g, j, none⟩ = false) ∧ SR w A6 s.done := by
 obtain ⟨A4, c4, A6, c6, wl, h1, h2, h3, h4, h5, h6, h7, h8, h9, h10⟩ := h.opn
 refine ⟨A4, c4, A6, c6, ?_, cellOf h1 (j := 6) rfl, cellOf h1 (j := 5) rfl, fun j => freeOf h1 j, ?_⟩
 · rw [way_len h6]; exact cellOf h1 (j := 4) rfl
 · obtain ⟨A, c, e, _, hs, _⟩ := h3.slice
   cases e
   exact hs
theorem GI.wl {w0 w : World} {C : Gc} {g b : Nat} {t : ByteArray} {ns : List ByteArray} {r : List Opn} {mt d : List ByteArray} {T : Nat → Prop} (h : GI w0 C g b ⟨(t, ns) :: r, mt, d⟩ T w) : ∃ (bw c4 : Nat) (A6 : Option Addr) (c6 : Nat) (wl0 : List OpV) (An : Option Addr) (cn : Nat),
   w.heap[g]? = some (.cells (gcells C b (.slice (some ⟨bw, 0, none⟩) (wl0.length + 1) c4) (.slice A6 d.length c6)) 78) ∧ OwnG encO 2 121 w w0.heap.size (.slice (some ⟨bw, 0, none⟩) (wl0.length + 1) c4) (wl0 ++ [⟨t, (An, cn, ns)⟩]) ∧ OwnS w w0.heap.size (.slice A6 d.length c6) d ∧
   (T bw ∧ bw ≠ g ∧ bw ≠ b) ∧ (∀ k, (Value.slice A6 d.length c6).ownBlock = some k → T k ∧ k ≠ g ∧ k ≠ b ∧ bw ≠ k) ∧ r = (wl0.map oOf).reverse ∧ (∀ o ∈ wl0, SR w o.nd.1 o.nd.2.2 ∧ SNC (fun k => ¬ T k) o.nd) ∧
   SR w An ns ∧ SNC (fun k => ¬ T k) (An, cn, ns) ∧ w.cell? ⟨bw, wl0.length * 2, none⟩ = some (.string t) ∧ w.cell? ⟨bw, wl0.length * 2 + 1, none⟩ = some (.slice An ns.length cn) ∧ w.frozen? ⟨bw, wl0.length * 2 + 1, none⟩ = false ∧ wl0.length + 1 ≤ c4 := by
 obtain ⟨A4, c4, A6, c6, wl, h1, h2, h3, h4, h5, h6, h7, h8, h9, h10⟩ := h.opn
 rcases List.eq_nil_or_concat wl with rfl | ⟨wl0, ov, e⟩
 · simp at h6
 rw [List.concat_eq_append] at e
 subst e
 obtain ⟨t', An, cn, N⟩ := ov
 dsimp only at h6
 rw [List.map_append, List.reverse_append] at h6
 simp only [List.map_cons, List.map_nil, List.reverse_cons, List.reverse_nil, List.nil_append, List.cons_append, oOf, List.cons.injEq, Prod.mk.injEq] at h6
 obtain ⟨⟨rfl, rfl⟩, rfl⟩ := h6
 obtain ⟨bw, ob, rfl, hbw, hco⟩ := h8 wl0.length ⟨t, (An, cn, ns)⟩ (by simp)
 obtain ⟨bw', e⟩ := h10 _ rfl
 injection e with e1 e2
 subst e1 e2
 have hco0 : w.cell? ⟨bw, wl0.length * 2, none⟩ = some (.string t) := by have := hco 0 _ rfl; simpa using this
 have hco1 : w.cell? ⟨bw, wl0.length * 2 + 1, none⟩ = some (.slice An ns.length cn) := by have := hco 1 _ rfl; simpa [sv] using this
 have hfr := World.ownsRow.frozenAt h2 (wl0.length * 2 + 1)
 rw [List.length_append, List.length_singleton] at h1 h2 h4 h5 h9
 have hl := h7 ⟨t, (An, cn, ns)⟩ (by simp)
 exact ⟨bw, c4, A6, c6, wl0, An, cn, h1, h2, h3, h4 bw rfl, fun k e => ⟨(h5 k e).1, (h5 k e).2.1, (h5 k e).2.2.1, fun e2 => (h5 k e).2.2.2 (by rw [e2]; rfl)⟩, rfl, fun o ho => h7 o (by simp [ho]), hl.1, hl.2, hco0, hco1, hfr, h9⟩
theorem GI.top {w0 w : World} {C : Gc} {g b : Nat} {t : ByteArray} {ns : List ByteArray} {r : List Opn} {mt d : List ByteArray} {T : Nat → Prop} (h : GI w0 C g b ⟨(t, ns) :: r, mt, d⟩ T w) : ∃ (bw c4 : Nat) (An : Option Addr) (cn : Nat),
   w.cell? ⟨g, 4, none⟩ = some (.slice (some ⟨bw, 0, none⟩) (r.length + 1) c4) ∧ bw ≠ g ∧ SR w An ns ∧ w.cell? ⟨bw, r.length * 2, none⟩ = some (.string t) ∧ w.cell? ⟨bw, r.length * 2 + 1, none⟩ = some (.slice An ns.length cn) ∧ w.frozen? ⟨bw, r.length * 2 + 1, none⟩ = false ∧ r.length + 1 ≤ c4 ∧ ns.length ≤ cn := by
 obtain ⟨bw, c4, A6, c6, wl0, An, cn, h1, h2, h3, h4, h5, rfl, h7, h8, h9, h10, h11, h12, h13⟩ := h.wl
 rw [List.length_reverse, List.length_map]
 exact ⟨bw, c4, An, cn, cellOf h1 (j := 4) rfl, h4.2.1, h8, h10, h11, h12, h13, h9.2⟩
theorem GI.pop_run {w0 w : World} {C : Gc} {g b : Nat} {t : ByteArray} {ns : List ByteArray} {r : List Opn} {mt d : List ByteArray} {T : Nat → Prop} (h : GI w0 C g b ⟨(t, ns) :: r, mt, d⟩ T w) {bw n c4 : Nat} (hc : w.cell? ⟨g, 4, none⟩ = some (.slice (some ⟨bw, 0, none⟩) n c4)) :
   GIP w0 C g b ⟨r, mt, d⟩ T w (w.setCell ⟨g, 4, none⟩ (.slice (some ⟨bw, 0, none⟩) r.length c4)) := by
 obtain ⟨bw', c4', A6, c6, wl0, An, cn, h1, h2, h3, h4, h5, rfl, h7, h8, h9, h10, h11, h12, h13⟩ := h.wl
 have e := (cellOf h1 (j := 4) rfl).symm.trans hc
 simp only [Option.some.injEq, Value.slice.injEq, Addr.mk.injEq, and_true, true_and] at e
 obtain ⟨rfl, rfl, rfl⟩ := e
 have := h.pop h1 h2 h3 h4 h5 h7
 rw [List.length_reverse, List.length_map]
 exact this
theorem GI.next_run {w0 w : World} {C : Gc} {g b : Nat} {t n : ByteArray} {ns : List ByteArray} {r : List Opn} {mt d : List ByteArray} {T : Nat → Prop} (h : GI w0 C g b ⟨(t, n :: ns) :: r, mt, d⟩ T w) {bw k c4 gs o l cn : Nat} (hc : w.cell? ⟨g, 4, none⟩ = some (.slice (some ⟨bw, 0, none⟩) k c4)) (hn : w.cell? ⟨bw, r.length * 2 + 1, none⟩ = some (.slice (some ⟨gs, o, none⟩) l cn)) {o' c' : Nat} (ho : ns = [] ∨ o' = o + 1) (hc' : ns.length ≤ c') :
   GIP w0 C g b ⟨(t, ns) :: r, mt, d⟩ T w (w.setCell ⟨bw, r.length * 2 + 1, none⟩ (.slice (some ⟨gs, o', none⟩) ns.length c')) := by
 obtain ⟨bw', c4', A6, c6, wl0, An, cn', h1, h2, h3, h4, h5, rfl, h7, h8, h9, h10, h11, h12, h13⟩ := h.wl
 have e := (cellOf h1 (j := 4) rfl).symm.trans hc
 simp only [Option.some.injEq, Value.slice.injEq, Addr.mk.injEq, and_true, true_and] at e
 obtain ⟨rfl, rfl, rfl⟩ := e
 rw [List.length_reverse, List.length_map] at hn ⊢
 have e := h11.symm.trans hn
 simp only [Option.some.injEq, Value.slice.injEq] at e
 obtain ⟨rfl, rfl, rfl⟩ := e
 have hs : SR w (some ⟨gs, o', none⟩) ns := by
   rcases ho with rfl | rfl
   · exact SR.nil _ _
   · have := h8.drop 1; simpa using this
 exact h.next (o' := ⟨t, (some ⟨gs, o', none⟩, c', ns)⟩) h1 h2 h3 h4 h5 h7 rfl hs ⟨fun a e h1 => by
   injection e with e
   subst e
   exact h9.1 ⟨gs, o, none⟩ rfl (by simp), hc'⟩
theorem GI.fin_run {w0 w1 w2 : World} {C : Gc} {g b : Nat} {s : Se} {T : Nat → Prop} (h : GI w0 C g b s T w1) (hb : Below w1.heap.size w1 w2) {A6 : Option Addr} {n c6 bw k c4 : Nat} (hc6 : w1.cell? ⟨g, 6, none⟩ = some (.slice A6 n c6)) (hc4 : w1.cell? ⟨g, 4, none⟩ = some (.slice (some ⟨bw, 0, none⟩) k c4)) (hn : n ≤ 1000) (x : ByteArray) :
   ∃ A9 c9 w4, (Builtin.append_ #[39, 39] 39 #[.slice A6 n c6, .slice (some ⟨w2.heap.size, 0, none⟩) 1 1]).run Tryz.prog (w2.alloc (.cells #[.string x] 9)) = .ok (.slice A9 (n + 1) c9) w4 ∧
     (w4.cell? ⟨g, 6, none⟩ = some (.slice A6 n c6) ∧ w4.frozen? ⟨g, 6, none⟩ = false) ∧ (∀ j v, w1.cell? ⟨bw, j, none⟩ = some v → w4.cell? ⟨bw, j, none⟩ = some v ∧ (w4.setCell ⟨g, 6, none⟩ (.slice A9 (n + 1) c9)).cell? ⟨bw, j, none⟩ = some v) ∧
     ((w4.setCell ⟨g, 6, none⟩ (.slice A9 (n + 1) c9)).cell? ⟨g, 4, none⟩ = some (.slice (some ⟨bw, 0, none⟩) k c4) ∧ (w4.setCell ⟨g, 6, none⟩ (.slice A9 (n + 1) c9)).frozen? ⟨g, 4, none⟩ = false) ∧
     GIP w0 C g b ⟨s.way, s.met, s.done ++ [x]⟩ T w1 (w4.setCell ⟨g, 6, none⟩ (.slice A9 (n + 1) c9)) := by
 have hba := hb.alloc hb.size (.cells #[.string x] 9)
 have h3 := h.step hba
 obtain ⟨A4', c4', A6', c6', wl, h1, h2, h3', h4, h5, h6, h7, h8, h9, h10⟩ := h3.opn
 have hgl := (h.tw g h.tg).2
 have e := (cellOf h1 (j := 6) (v := .slice A6' s.done.length c6') rfl).symm.trans ((hba.cell (p := ⟨g, 6, none⟩) hgl).trans hc6)
 simp only [Option.some.injEq, Value.slice.injEq] at e
 obtain ⟨rfl, rfl, rfl⟩ := e
 have e := (cellOf h1 (j := 4) (v := .slice A4' wl.length c4') rfl).symm.trans ((hba.cell (p := ⟨g, 4, none⟩) hgl).trans hc4)
 simp only [Option.some.injEq, Value.slice.injEq] at e
 obtain ⟨rfl, rfl, rfl⟩ := e
 have hN : SR (w2.alloc (.cells #[.string x] 9)) (some ⟨w2.heap.size, 0, none⟩) [x] := sr_new w2 x
 obtain ⟨v4, w4, hrun, ho, hg, hv⟩ := run_appS (c := 1) h3' hN h3.below.size (by simp; omega)
 obtain ⟨A9, c9, e9, _, _, _⟩ := ho.slice
 rw [List.length_append, List.length_singleton] at e9
 subst e9
 have hgne : some g ≠ (Value.slice A6' s.done.length c6').ownBlock := fun e => (h5 g e.symm).2.1 rfl
 have hbw := h4 bw rfl
 have hbne : some bw ≠ (Value.slice A6' s.done.length c6').ownBlock := fun e => (h5 bw e.symm).2.2.2 rfl
 have hbl := (h.tw bw hbw.1).2
 have hg4 := (hg.block g (by have := hba.size; omega) hgne).trans h1
 have hg5 := heapSet (j := 6) hg4 (.slice A9 (s.done.length + 1) c9)
 have hbk : w4.heap[bw]? = w1.heap[bw]? := (hg.block bw (by have := hba.size; omega) hbne).trans (hba.block bw hbl)
 have hks := kp_set (w := w4) (g := g) (j := 6) (v := .slice A9 (s.done.length + 1) c9)
 have hw : GIP w0 C g b ⟨s.way, s.met, s.done ++ [x]⟩ T (w2.alloc (.cells #[.string x] 9)) (w4.setCell ⟨g, 6, none⟩ (.slice A9 (s.done.length + 1) c9)) := h3.fin h1 h2 h4 h5 h6 h7 ho hg hv
 refine ⟨A9, c9, w4, hrun, ⟨cellOf hg4 (j := 6) rfl, freeOf hg4 6⟩, fun j v hj => ?_, ⟨cellOf hg5 (j := 4) rfl, freeOf hg5 4⟩, ?_⟩
 · have h1 := (World.cell?_of_block (a := ⟨bw, j, none⟩) hbk).trans hj
   exact ⟨h1, hks.cell h1 hbw.2.1⟩
 · obtain ⟨T', f, k, gr⟩ := hw
   exact ⟨T', f, (Kp.of_below hba T).trans (k.mono fun q hq => .inl hq), fun q hq => (gr q hq).imp_right (Nat.le_trans hba.size)⟩
theorem GIP.glue {w0 w wz w' : World} {C : Gc} {g b : Nat} {s : Se} {T T2 : Nat → Prop} (hk : Kp w wz T ∧ ∀ k, T2 k → T k ∨ w.heap.size ≤ k) (h : GIP w0 C g b s T2 wz w') : GIP w0 C g b s T w w' := by
 obtain ⟨T', f, k, gr⟩ := h
 refine ⟨T', f, hk.1.trans (k.mono hk.2), fun q hq => ?_⟩
 rcases gr q hq with h | h
 · exact hk.2 q h
 · exact .inr (Nat.le_trans hk.1.size h)
theorem GIP.drew {w0 w w' : World} {C : Gc} {g b : Nat} {s : Se} {T : Nat → Prop} (h : GIP w0 C g b s T w w') : GIP w0 C g b s T w w'.drew := h.trans fun _ f => f.toP (Below.refl _ _).drew
end
section
section
variable {P : Program} {ops : Array Oper} {Q : Exit → Act → World → Prop} {md : Region.Mode} {S : World → Prop}
theorem wpAnyH_tk {i d : Nat} {oi : Oper} {v : Value} {fuel : Nat} {listed : Array Bool} {a : Act} {w : World} (hi : ops[i]? = some oi) (hd : oi.dst = some d)
   (hs : Region.noSelect ops = true) (hf : Region.free md ops listed i = true) (hr : (Region.ready md ops listed).contains i = true)
   (hQ : ∀ c a w, Q (.panic c) (a.put oi.dst v) w → Q (.panic c) a w) (hy : YieldsIf P ops S oi v a) (hS : S w)
   (h : wpAnyH P md ops Q S fuel (listed.setIfInBounds i true) { a with tmps := a.tmps.setIfInBounds d v } w) : wpAnyH P md ops Q S (fuel + 1) listed a w :=
 wpAnyH_take hi hs hf hr hQ hy hS (by rw [hd]; exact h)
theorem wpAnyH_off {i d : Nat} {oi : Oper} {fuel : Nat} {listed : Array Bool} {a : Act} {w : World} (hi : ops[i]? = some oi) (hd : oi.dst = some d)
   (hs : Region.noSelect ops = true) (hf : Region.free md ops listed i = true) (hr : (Region.ready md ops listed).contains i = true)
   (hQ : ∀ c a w, Q (.panic c) (a.put oi.dst undef) w → Q (.panic c) a w) (hy : Region.wanted oi (yielded ops a.tmps) = false) (hS : S w)
   (h : wpAnyH P md ops Q S fuel (listed.setIfInBounds i true) { a with tmps := a.tmps.setIfInBounds d undef } w) : wpAnyH P md ops Q S (fuel + 1) listed a w :=
 wpAnyH_tk hi hd hs hf hr hQ (Or.inr ⟨hy, rfl⟩) hS h
theorem tq {i d : Nat} {oi : Oper} {v : Value} {fuel : Nat} {listed : Array Bool} {a : Act} {w : World} (hi : ops[i]? = some oi) (hd : oi.dst = some d)
   (hc : (Region.noSelect ops && (Region.free md ops listed i && ((Region.ready md ops listed).contains i && Region.wanted oi (yielded ops a.tmps)))) = true)
   (hQ : ∀ c a w, Q (.panic c) (a.put oi.dst v) w → Q (.panic c) a w) (hy : ∀ w, S w → (execOp a.eval oi).run P w = .ok (.value v) w) (hS : S w)
   (h : wpAnyH P md ops Q S fuel (listed.setIfInBounds i true) { a with tmps := a.tmps.setIfInBounds d v } w) : wpAnyH P md ops Q S (fuel + 1) listed a w := by
 simp only [Bool.and_eq_true] at hc
 exact wpAnyH_tk hi hd hc.1 hc.2.1 hc.2.2.1 hQ (Or.inl ⟨hc.2.2.2, hy⟩) hS h
theorem rq {k : Nat} {o : Oper} {fuel : Nat} {listed : Array Bool} {a : Act} {w : World} (ho : ops[k]? = some o) (hr : Region.ready md ops listed = [k]) (hw : Region.wanted o (yielded ops a.tmps) = true)
   (h : ∀ K' : Act → World → Prop, Shut (∀ a w, S w → (S w → wpAnyH P md ops Q S fuel (listed.setIfInBounds k true) a w) → K' a w) → Oper.wp P o a w K' Q) : wpAnyH P md ops Q S (fuel + 1) listed a w :=
 wpAnyH_ready hr (by simp) (AllReadyH.cons ho (fun K hK => by rw [if_pos hw]; exact h K hK) AllReadyH.nil)
theorem sA {α : Type} {l : List α} {i : Nat} {a : α} : l.toArray.setIfInBounds i a = (l.set i a).toArray := List.setIfInBounds_toArray l i a
theorem sB {α : Type} {x : α} {xs : List α} {a : α} : (x :: xs).set 0 a = a :: xs := List.set_cons_zero
theorem sC {α : Type} {x : α} {xs : List α} {i : Nat} {a : α} : (x :: xs).set (i + 1) a = x :: xs.set i a := List.set_cons_succ
theorem step_app_run {o : Oper} {a : Act} {w : World} {K : Act → World → Prop} {X : Prop} {t : TypeId} {v xv v' : Value} {w' : World} (hgd : o.guard = none) (s x : Operand)
   (ho : o.op = .call { callee := .builtin .append, args := #[s, x], argTypes := #[t, t] }) (ht : o.type = t) (hs : a.eval s = v) (hx : a.eval x = xv)
   (hrun : (Builtin.append_ #[t, t] t #[v, xv]).run P w = .ok v' w') (hk : K (a.put o.dst v') w') : if Region.wanted o (yielded ops a.tmps) = true then Oper.wp P o a w K Q else X := by
 have hw : Region.wanted o (yielded ops a.tmps) = true := by simp [Region.wanted, hgd]
 rw [if_pos hw]
 unfold Oper.wp execOp
 simp only [ho, resolve, invoke, builtin, Sem.run_bind, Sem.run_pure, Result.andThen_ok, List.map_toArray, List.map_cons, List.map_nil, hs, hx, ht, hrun]
 exact hk
end
end
section
open Go.RowKit Go.Deep Go.Maps Ln Pth Vf
attribute [local go_sem] bt_eq
theorem is_any (g : Nat) (S : St) (cwd s : T) (w : World) (h : Hs (VS g S) w) (hm : MX w) (h1 : cwd.length ≤ 100000) (h2 : s.length ≤ 6600000) :
   Calls Tryz.prog 114 #[.pointer (some ⟨g, 0, none⟩), .string (bs cwd), .string (bs s)] w fun e w' => e = .returned (.bool (decide (kindT S cwd s ≠ 0))) ∧ Below w.heap.size w w' := by
 have HA := hide (abs_any cwd s w hm (by omega) (by omega))
 have hl : (absF cwd s).1.length ≤ 200 := by
   rcases absF_cases cwd s with ⟨l, g, e, _⟩ | ⟨e, _⟩
   · rw [e]; exact g.len
   · rw [e]; simp
 have hR : kindT S cwd s = if (absF cwd s).2 ≠ 0 then 0 else kindS S (absF cwd s).1 := rfl
 have HK := hide (fun W (hb : Below w.heap.size w W) => vkind_any g S (absF cwd s).1 W (h.below (VS.fr g S) hb) (hm.below hb) (by omega))
 unfold AbsPost at HA
 obtain ⟨q, hq⟩ : ∃ q, (absF cwd s).1 = q := ⟨_, rfl⟩
 obtain ⟨e, he⟩ : ∃ q, (absF cwd s).2 = q := ⟨_, rfl⟩
 rw [hq] at HA HK hR
 rw [he] at HA hR
 have HR := hide hR
 clear hR hq he hl h hm
 by_cases c1 : e = 0
 case neg =>
   obtain ⟨t1, t2⟩ := ne0 c1
   have HE := hide (HR.out.trans (if_pos c1))
   clear c1
   go_enter Tryz.func114, Tryz.ntmps114
   go_wp2_with fail
   refine HA.out.mono ?_
   rintro e w1 ⟨rfl, hb⟩
   have HB := hide hb
   clear hb
   go_wp2
   go_ret
   rw [HE.out]
   exact ⟨rfl, HB.out⟩
 subst c1
 have HE := hide (HR.out.trans (if_neg (by simp)))
 obtain ⟨kk, hkk⟩ : ∃ k, kindS S q = k := ⟨_, rfl⟩
 rw [hkk] at HK HE
 go_enter Tryz.func114, Tryz.ntmps114
 go_wp2_with fail
 refine HA.out.mono ?_
 rintro e w1 ⟨rfl, hb⟩
 have HB := hide hb
 clear hb
 go_wp2_with fail
 refine (HK.out w1 HB.out).mono ?_
 rintro e w2 ⟨rfl, hb⟩
 have HB2 := hide (below_up HB.out hb HB.out.size)
 clear hb
 go_wp2
 go_ret
 rw [HE.out, show decide (kk ≠ 0) = ((kk : Int) != 0) from by
   rw [Bool.eq_iff_iff]
   simp]
 exact ⟨rfl, HB2.out⟩
def IdxPostO (p : OpV → Bool) (L : List OpV) (w : World) (e : Ending) (w' : World) : Prop := ∃ i : Int, e = .returned (.int .i64 i) ∧ decide (0 ≤ i) = L.any p ∧ Below w.heap.size w w'
theorem idxo_any (p : OpV → Bool) (g : Nat) (lb : Array Value) (eg : ∀ args w, (callFunc g args).run Tryz.prog w = .ok (.enter g args) w) (A : Option Addr) (c : Nat) (L : List OpV) (w : World) (hl : L.length ≤ 1000000) (hA : RG encO 2 w A L)
   (hf : ∀ (W : World) (x : OpV), x ∈ L → Below w.heap.size w W → Calls Tryz.prog g (#[.agg #[.string x.t, sv x.nd]] ++ lb) W fun e w' => e = .returned (.bool (p x)) ∧ Below w.heap.size w w') :
   Calls Tryz.prog 151 #[.slice A L.length c, .func (.func g) #[] lb] w (IdxPostO p L w) := by
 have HA := hide hA
 have HF := hide hf
 clear hA hf
 obtain ⟨n, hn⟩ : ∃ n, L.length = n := ⟨_, rfl⟩
 have HN := hide hn
 rw [hn] at hl ⊢
 clear hn
 have hn1 : (n : Int) ≤ 1000000 := by omega
 go_enter Tryz.func151, Tryz.ntmps151
 go_wp2
 go_loopw [5, 8] (fun _v5 v8 wr => ∃ k : Nat, v8 = .int .i64 k ∧ k ≤ n ∧ Hid ((L.take k).any p = false) ∧ Below w.heap.size w wr) (fun _ v8 _ => n - (intOf v8).toNat)
 case atStart => exact ⟨0, rfl, by omega, rfl, Below.refl _ _⟩
 case round =>
   obtain ⟨k, rfl, hk, HP, hb⟩ := hrel
   have HB := hide hb
   have HAR := hide (HA.out.below hb)
   clear hb
   by_cases hlt : k < n
   · obtain ⟨x, hx⟩ : ∃ x, L[k]? = some x := ⟨L[k]'(by have := HN.out; omega), gE _⟩
     obtain ⟨gs, o, rfl, hg, hc⟩ := HAR.out k x hx
     have hc1 : wr.cell? ⟨gs, o + k * 2, none⟩ = some (.string x.t) := by have := hc 0 _ rfl; simpa using this
     have hc2 : wr.cell? ⟨gs, o + k * 2 + 1, none⟩ = some (sv x.nd) := hc 1 _ rfl
     clear hc
     have hcall := HF.out wr x (List.mem_of_getElem? hx) HB.out
     have b1 : (k : Int) < (n : Int) := by omega
     have HX := hide hx
     clear hx
     obtain ⟨pb, hpb⟩ : ∃ b, p x = b := ⟨_, rfl⟩
     rw [hpb] at hcall
     have HPB := hide hpb
     clear hpb
     have HC := hide hcall
     clear hcall
     go_wp2_with fail
     refine HC.out.mono ?_
     rintro e w' ⟨rfl, hb'⟩
     have HB' := hide hb'
     clear hb'
     cases pb with
     | true =>
       go_wp2
       go_ret
       refine ⟨_, rfl, ?_, HB'.out⟩
       have : L.any p = true := List.any_eq_true.2 ⟨x, List.mem_of_getElem? HX.out, HPB.out⟩
       rw [this]
       simp
     | false =>
       go_wp2
       go_roundw
       case rel =>
         refine ⟨k + 1, by go_num, by omega, ?_, HB'.out⟩
         show (L.take (k + 1)).any p = false
         rw [List.take_add_one, List.any_append, HP.out, HX.out]
         simpa using HPB.out
       case measure => simp [intOf]; omega
   · obtain rfl : k = n := by omega
     have HE := hide (show L.any p = false by
       have := HP.out
       rwa [List.take_of_length_le (by have := HN.out; omega)] at this)
     go_wp2
     go_ret
     exact ⟨_, rfl, by rw [HE.out]; rfl, HB.out⟩
theorem conto_any (p : OpV → Bool) (g : Nat) (lb : Array Value) (eg : ∀ args w, (callFunc g args).run Tryz.prog w = .ok (.enter g args) w) (A : Option Addr) (c : Nat) (L : List OpV) (w : World) (hl : L.length ≤ 1000000) (hA : RG encO 2 w A L)
   (hf : ∀ (W : World) (x : OpV), x ∈ L → Below w.heap.size w W → Calls Tryz.prog g (#[.agg #[.string x.t, sv x.nd]] ++ lb) W fun e w' => e = .returned (.bool (p x)) ∧ Below w.heap.size w w') :
   Calls Tryz.prog 112 #[.slice A L.length c, .func (.func g) #[] lb] w fun e w' => e = .returned (.bool (L.any p)) ∧ Below w.heap.size w w' := by
 have HI := hide (idxo_any p g lb eg A c L w hl hA hf)
 clear hA hf
 obtain ⟨n, hn⟩ : ∃ n, L.length = n := ⟨_, rfl⟩
 rw [hn] at HI ⊢
 clear hn hl
 obtain ⟨b, hb⟩ : ∃ b, L.any p = b := ⟨_, rfl⟩
 unfold IdxPostO at HI
 rw [hb] at HI ⊢
 clear hb
 go_enter Tryz.func112, Tryz.ntmps112
 go_wp2_with fail
 refine HI.out.mono ?_
 rintro e w' ⟨i, rfl, hi, hb'⟩
 have HI2 := hide hi
 have HB := hide hb'
 clear hi hb'
 go_wp2
 go_ret
 refine ⟨?_, HB.out⟩
 rw [← HI2.out]
 rfl
theorem waits1_any (x : ByteArray) (o : OpV) (px : Nat) (w : World) (hp : w.cell? ⟨px, 0, none⟩ = some (.string x)) :
   Calls Tryz.prog 113 (#[.agg #[.string o.t, sv o.nd]] ++ #[.pointer (some ⟨px, 0, none⟩)]) w fun e w' => e = .returned (.bool (decide (o.t = x))) ∧ Below w.heap.size w w' := by
 have hpl := World.block_lt_of_cell? _ _ hp
 have hb := (Below.refl w.heap.size w).alloc (Nat.le_refl _) (.cells #[.string o.t, sv o.nd] 121)
 have hp2 := (hb.cell (p := ⟨px, 0, none⟩) hpl).trans hp
 have HB := hide hb
 clear hb hp
 show Calls _ _ #[.agg #[.string o.t, sv o.nd], .pointer (some ⟨px, 0, none⟩)] _ _
 go_enter Tryz.func113, Tryz.ntmps113
 go_wp2
 go_ret
 refine ⟨?_, HB.out⟩
 have : (o.t.data == x.data) = decide (o.t = x) := by
   rw [Bool.eq_iff_iff, beq_iff_eq, decide_eq_true_eq]
   exact ⟨fun h => ByteArray.ext h, fun h => by rw [h]⟩
 simp [ByteArray.toList_eq, this]
theorem waits_any (w0 : World) (C : Gc) (g b : Nat) (s : Se) (T : Nat → Prop) (x : ByteArray) (w : World) (h : GI w0 C g b s T w) (hl : s.way.length ≤ 1000) :
   Calls Tryz.prog 73 #[.pointer (some ⟨g, 0, none⟩), .string x] w fun e w' => e = .returned (.bool (s.way.any fun o => decide (o.1 = x))) ∧ Below w.heap.size w w' := by
 obtain ⟨A4, c4, A6, c6, wl, h1, h2, h3, h4, h5, h6, h7, h8, h9, h10⟩ := h.opn
 have hwl : wl.length ≤ 1000 := by rw [way_len h6] at hl; exact hl
 have hba := (Below.refl w.heap.size w).alloc (Nat.le_refl _) (.cells #[.string x] 9)
 have hnb := heapNew w (.cells #[.string x] 9)
 have hcf := conto_any (fun o => decide (o.t = x)) 113 #[.pointer (some ⟨w.heap.size, 0, none⟩)] (fun _ _ => by kernel_rfl) A4 c4 wl (w.alloc (.cells #[.string x] 9)) (by omega) (h8.below hba) (fun W o _ hb => waits1_any x o w.heap.size W (cellOf ((hb.block w.heap.size (by simp)).trans hnb) (j := 0) rfl) |>.mono fun e w' ⟨h3, h4⟩ => ⟨h3, below_up hb h4 hb.size⟩)
 have he : (wl.any fun o => decide (o.t = x)) = s.way.any fun o => decide (o.1 = x) := by
   rw [h6, List.any_reverse, List.any_map]
   rfl
 rw [he] at hcf
 obtain ⟨q, hq⟩ : ∃ q, (s.way.any fun o => decide (o.1 = x)) = q := ⟨_, rfl⟩
 rw [hq] at hcf ⊢
 obtain ⟨n, hn⟩ : ∃ n, wl.length = n := ⟨_, rfl⟩
 rw [hn] at hcf h1
 have hgl := (h.tw g h.tg).2
 have hc4 := cellOf ((hba.block g hgl).trans h1) (j := 4) (v := .slice A4 n c4) rfl
 have HCF := hide hcf
 have HBA := hide hba
 clear hcf he hq hn hba hnb h h1 h2 h3 h4 h5 h6 h7 h8 h9 h10
 go_enter Tryz.func73, Tryz.ntmps73
 go_wp2_with fail
 refine HCF.out.mono ?_
 rintro e w' ⟨rfl, hb⟩
 have HB := hide (below_up HBA.out hb HBA.out.size)
 clear hb
 go_wp2
 go_ret
 exact ⟨rfl, HB.out⟩
structure GH (w0 : World) (C : Gc) (P : ByteArray → Pn) (is : ByteArray → Bool) (Gd : Nat → ByteArray → Prop) : Prop where
 plan : ∀ (m : Nat) (W : World) (x : ByteArray), m ≤ 1000 → Gd m x → Below w0.heap.size w0 W → Calls Tryz.prog 31 #[.agg #[C.v0, C.v1], .pointer (some ⟨C.gf, 0, none⟩), .string C.cwd, .string x] W (PlanPost W (P x))
 is_ : ∀ (m : Nat) (W : World) (x : ByteArray), m ≤ 1000 → Gd m x → Below w0.heap.size w0 W → Calls Tryz.prog 114 #[.pointer (some ⟨C.gf, 0, none⟩), .string C.cwd, .string x] W fun e w' => e = .returned (.bool (is x)) ∧ Below W.heap.size W w'
 next : ∀ m x, m < 1000 → Gd m x → ∀ y ∈ (P x).needs, Gd (m + 1) y
 len : ∀ m x, m ≤ 1000 → Gd m x → (P x).needs.length ≤ 900000
 size : ∀ m x, m ≤ 1000 → Gd m x → x.size ≤ 1000000000
 mono : ∀ m x, Gd m x → Gd (m + 1) x
theorem pfld0 (x y z u : Value) (w : World) : (Instr.field 49 (.agg #[x, y, z, u]) 0).run Tryz.prog w = .ok x w := by kernel_rfl
theorem pfld3 (x y z u : Value) (w : World) : (Instr.field 49 (.agg #[x, y, z, u]) 3).run Tryz.prog w = .ok u w := by kernel_rfl
attribute [local go_sem] pfld0 pfld3
set_option linter.unusedSimpArgs false in
theorem may_any (w0 : World) (C : Gc) (P : ByteArray → Pn) (is : ByteArray → Bool) (Gd : Nat → ByteArray → Prop) (hG : GH w0 C P is Gd) (g b : Nat) (s : Se) (T : Nat → Prop) (x : ByteArray) (w : World) (h : GI w0 C g b s T w) (hx : Gd s.met.length x) (hw : s.way.length ≤ 1000) (hme : s.met.length ≤ 1000) :
   Calls Tryz.prog 74 #[.pointer (some ⟨g, 0, none⟩), .string x] w fun e w' => e = .returned (.int .i64 (mayF P is x s)) ∧ Below w.heap.size w w' := by
 obtain ⟨A4, c4, A6, c6, wl, h1, h2, h3, h4, h5, h6, h7, h8, h9, h10⟩ := h.opn
 have hln := fun ty => h.met.len h.nodup ty
 have hbw := h.below
 have HPL := hide (fun (W : World) (hb : Below w.heap.size w W) => hG.plan _ W x (by omega) hx (below_up hbw hb hbw.size))
 have HIS := hide (fun (W : World) (hb : Below w.heap.size w W) => hG.is_ _ W x (by omega) hx (below_up hbw hb hbw.size))
 have hc0 := cellOf h1 (j := 0) (v := C.v0) rfl
 have hc1 := cellOf h1 (j := 1) (v := C.v1) rfl
 have hc2 := cellOf h1 (j := 2) (v := .pointer (some ⟨C.gf, 0, none⟩)) rfl
 have hc3 := cellOf h1 (j := 3) (v := .string C.cwd) rfl
 have hwl := way_len h6
 have hR : mayF P is x s = if 1000 ≤ s.met.length ∨ 200 ≤ s.way.length then 3 else if (P x).rule = false ∧ is x = false then 19 else 0 := rfl
 obtain ⟨m, hm⟩ : ∃ m, s.met.length = m := ⟨_, rfl⟩
 obtain ⟨n, hn⟩ : ∃ n, wl.length = n := ⟨_, rfl⟩
 rw [hm, hwl, hn] at hR
 rw [hwl, hn] at hw
 rw [hm] at hln hme
 rw [hn] at h1
 have hc4 := cellOf h1 (j := 4) (v := .slice A4 n c4) rfl
 have hc5 := cellOf h1 (j := 5) (v := .map (some b)) rfl
 have hgl := (h.tw g h.tg).2
 have hni : (n : Int) ≤ 1000 := by omega
 have hmi : (m : Int) ≤ 1000 := by omega
 obtain ⟨q, hq⟩ : ∃ q, P x = q := ⟨_, rfl⟩
 obtain ⟨ib, hib⟩ : ∃ q, is x = q := ⟨_, rfl⟩
 rw [hq] at HPL hR
 rw [hib] at HIS hR
 obtain ⟨stem, hst⟩ : ∃ s, bs q.stem = s := ⟨_, rfl⟩
 obtain ⟨ru, hru⟩ : ∃ s, q.rule = s := ⟨_, rfl⟩
 unfold PlanPost at HPL
 rw [hst, hru] at HPL
 rw [hru] at hR
 have HR := hide hR
 have HBR := hide (Below.refl w.heap.size w)
 clear hR hm hn hwl hq hib hst hru h2 h3 h4 h5 h6 h7 h8 h9 h10 h hx hG hbw h1
 by_cases c1 : 1000 ≤ m
 · have HE := hide (HR.out.trans (if_pos (.inl c1)))
   have d1 : decide ((1000 : Int) ≤ (m : Int)) = true := by simp; omega
   have d1' : decide (1000 ≤ m) = true := by simp; omega
   clear c1
   go_enter Tryz.func74, Tryz.ntmps74
   go_wp2
   go_ret
   rw [HE.out]
   exact ⟨rfl, HBR.out⟩
 have d1 : decide ((1000 : Int) ≤ (m : Int)) = false := by simp; omega
 have d1' : decide (1000 ≤ m) = false := by simp; omega
 by_cases c2 : 200 ≤ n
 · have HE := hide (HR.out.trans (if_pos (.inr c2)))
   have d2 : decide ((200 : Int) ≤ (n : Int)) = true := by simp; omega
   have d2' : decide (200 ≤ n) = true := by simp; omega
   clear c2 c1
   go_enter Tryz.func74, Tryz.ntmps74
   go_wp2
   go_ret
   rw [HE.out]
   exact ⟨rfl, HBR.out⟩
 have d2 : decide ((200 : Int) ≤ (n : Int)) = false := by simp; omega
 have d2' : decide (200 ≤ n) = false := by simp; omega
 have HRR := hide (HR.out.trans (if_neg (by omega)))
 clear HR c1 c2
 go_enter Tryz.func74, Tryz.ntmps74
 go_wp2_with fail
 have hbd : Below w.heap.size w w.drew := (Below.refl _ _).drew
 cases ru with
 | true =>
   have HE := hide (HRR.out.trans (if_neg (by simp)))
   refine wp_region_held_drew (S := (fun w' => w'.cell? ⟨g, 0, none⟩ = some C.v0 ∧ w'.cell? ⟨g, 1, none⟩ = some C.v1 ∧ w'.cell? ⟨g, 2, none⟩ = some (.pointer (some ⟨C.gf, 0, none⟩)) ∧ w'.cell? ⟨g, 3, none⟩ = some (.string C.cwd))) (by kernel_rfl) ⟨hc0, hc1, hc2, hc3⟩ (fun hHeld => ?_)
   refine tq (i := 0) (v := ?v0) rfl rfl (by kernel_rfl) (fun _ _ _ h => h) ?y0 (by assumption) ?r0
   case y0 => intro w h; (try dsimp only at h); go_simp; try with_reducible rfl
   try simp only [sA, sB, sC]
   refine tq (i := 1) (v := ?v1) rfl rfl (by kernel_rfl) (fun _ _ _ h => h) ?y1 (by assumption) ?r1
   case y1 => intro w h; (try dsimp only at h); go_simp; try with_reducible rfl
   try simp only [sA, sB, sC]
   refine tq (i := 2) (v := ?v2) rfl rfl (by kernel_rfl) (fun _ _ _ h => h) ?y2 (by assumption) ?r2
   case y2 => intro w h; (try dsimp only at h); go_simp; try with_reducible rfl
   try simp only [sA, sB, sC]
   refine tq (i := 3) (v := ?v3) rfl rfl (by kernel_rfl) (fun _ _ _ h => h) ?y3 (by assumption) ?r3
   case y3 => intro w h; (try dsimp only at h); go_simp; try with_reducible rfl
   try simp only [sA, sB, sC]
   refine tq (i := 4) (v := ?v4) rfl rfl (by kernel_rfl) (fun _ _ _ h => h) ?y4 (by assumption) ?r4
   case y4 => intro w h; (try dsimp only at h); go_simp; try with_reducible rfl
   try simp only [sA, sB, sC]
   refine tq (i := 5) (v := ?v5) rfl rfl (by kernel_rfl) (fun _ _ _ h => h) ?y5 (by assumption) ?r5
   case y5 => intro w h; (try dsimp only at h); go_simp; try with_reducible rfl
   try simp only [sA, sB, sC]
   refine tq (i := 6) (v := ?v6) rfl rfl (by kernel_rfl) (fun _ _ _ h => h) ?y6 (by assumption) ?r6
   case y6 => intro w h; (try dsimp only at h); go_simp; try with_reducible rfl
   try simp only [sA, sB, sC]
   refine tq (i := 7) (v := ?v7) rfl rfl (by kernel_rfl) (fun _ _ _ h => h) ?y7 (by assumption) ?r7
   case y7 => intro w h; (try dsimp only at h); go_simp; try with_reducible rfl
   try simp only [sA, sB, sC]
   refine tq (i := 8) (v := ?v8) rfl rfl (by kernel_rfl) (fun _ _ _ h => h) ?y8 (by assumption) ?r8
   case y8 => intro w h; (try dsimp only at h); go_simp; try with_reducible rfl
   try simp only [sA, sB, sC]
   refine tq (i := 9) (v := ?v9) rfl rfl (by kernel_rfl) (fun _ _ _ h => h) ?y9 (by assumption) ?r9
   case y9 => intro w h; (try dsimp only at h); go_simp; try with_reducible rfl
   try simp only [sA, sB, sC]
   refine tq (i := 10) (v := ?v10) rfl rfl (by kernel_rfl) (fun _ _ _ h => h) ?y10 (by assumption) ?r10
   case y10 => intro w h; (try dsimp only at h); go_simp; try with_reducible rfl
   try simp only [sA, sB, sC]
   refine tq (i := 11) (v := ?v11) rfl rfl (by kernel_rfl) (fun _ _ _ h => h) ?y11 (by assumption) ?r11
   case y11 => intro w h; (try dsimp only at h); go_simp; try with_reducible rfl
   try simp only [sA, sB, sC]
   refine tq (i := 12) (v := ?v12) rfl rfl (by kernel_rfl) (fun _ _ _ h => h) ?y12 (by assumption) ?r12
   case y12 => intro w h; (try dsimp only at h); go_simp; try with_reducible rfl
   try simp only [sA, sB, sC]
   refine rq (k := 13) rfl (by kernel_rfl) (by kernel_rfl) (fun K hK => ?_)
   go_simp
   refine (HPL.out _ hbd).mono ?_
   rintro e w1 ⟨vn, vr, rfl, _, _, hb1⟩
   have hbx := below_up hbd hb1 hbd.size
   have y0 := (hbx.cell (p := ⟨g, 0, none⟩) hgl).trans hc0
   have y1 := (hbx.cell (p := ⟨g, 1, none⟩) hgl).trans hc1
   have y2 := (hbx.cell (p := ⟨g, 2, none⟩) hgl).trans hc2
   have y3 := (hbx.cell (p := ⟨g, 3, none⟩) hgl).trans hc3
   refine hK.out _ _ ⟨y0, y1, y2, y3⟩ (fun _ => ?_)
   clear hK K
   try simp only [Act.put, sA, sB, sC]
   refine tq (i := 14) (v := ?v14) rfl rfl (by kernel_rfl) (fun _ _ _ h => h) ?y14 (by assumption) ?r14
   case y14 => intro w h; (try dsimp only at h); go_simp; try with_reducible rfl
   try simp only [sA, sB, sC]
   refine tq (i := 15) (v := ?v15) rfl rfl (by kernel_rfl) (fun _ _ _ h => h) ?y15 (by assumption) ?r15
   case y15 => intro w h; (try dsimp only at h); go_simp; try with_reducible rfl
   try simp only [sA, sB, sC]
   refine tq (i := 16) (v := ?v16) rfl rfl (by kernel_rfl) (fun _ _ _ h => h) ?y16 (by assumption) ?r16
   case y16 => intro w h; (try dsimp only at h); go_simp; try with_reducible rfl
   try simp only [sA, sB, sC]
   refine wpAnyH_off (i := 17) (oi := _) rfl rfl (by kernel_rfl) (by kernel_rfl) (by kernel_rfl) (fun _ _ _ h => h) (by kernel_rfl) (by assumption) ?_
   try simp only [sA, sB, sC]
   refine wpAnyH_off (i := 18) (oi := _) rfl rfl (by kernel_rfl) (by kernel_rfl) (by kernel_rfl) (fun _ _ _ h => h) (by kernel_rfl) (by assumption) ?_
   try simp only [sA, sB, sC]
   refine wpAnyH_off (i := 19) (oi := _) rfl rfl (by kernel_rfl) (by kernel_rfl) (by kernel_rfl) (fun _ _ _ h => h) (by kernel_rfl) (by assumption) ?_
   try simp only [sA, sB, sC]
   refine wpAnyH_off (i := 20) (oi := _) rfl rfl (by kernel_rfl) (by kernel_rfl) (by kernel_rfl) (fun _ _ _ h => h) (by kernel_rfl) (by assumption) ?_
   try simp only [sA, sB, sC]
   refine wpAnyH_off (i := 21) (oi := _) rfl rfl (by kernel_rfl) (by kernel_rfl) (by kernel_rfl) (fun _ _ _ h => h) (by kernel_rfl) (by assumption) ?_
   try simp only [sA, sB, sC]
   refine wpAnyH_off (i := 22) (oi := _) rfl rfl (by kernel_rfl) (by kernel_rfl) (by kernel_rfl) (fun _ _ _ h => h) (by kernel_rfl) (by assumption) ?_
   try simp only [sA, sB, sC]
   refine wpAnyH_off (i := 23) (oi := _) rfl rfl (by kernel_rfl) (by kernel_rfl) (by kernel_rfl) (fun _ _ _ h => h) (by kernel_rfl) (by assumption) ?_
   try simp only [sA, sB, sC]
   refine wpAnyH_off (i := 24) (oi := _) rfl rfl (by kernel_rfl) (by kernel_rfl) (by kernel_rfl) (fun _ _ _ h => h) (by kernel_rfl) (by assumption) ?_
   try simp only [sA, sB, sC]
   refine wpAnyH_off (i := 25) (oi := _) rfl rfl (by kernel_rfl) (by kernel_rfl) (by kernel_rfl) (fun _ _ _ h => h) (by kernel_rfl) (by assumption) ?_
   try simp only [sA, sB, sC]
   refine wpAnyH_off (i := 26) (oi := _) rfl rfl (by kernel_rfl) (by kernel_rfl) (by kernel_rfl) (fun _ _ _ h => h) (by kernel_rfl) (by assumption) ?_
   try simp only [sA, sB, sC]
   refine wpAnyH_off (i := 27) (oi := _) rfl rfl (by kernel_rfl) (by kernel_rfl) (by kernel_rfl) (fun _ _ _ h => h) (by kernel_rfl) (by assumption) ?_
   try simp only [sA, sB, sC]
   refine tq (i := 28) (v := ?v28) rfl rfl (by kernel_rfl) (fun _ _ _ h => h) ?y28 (by assumption) ?r28
   case y28 => intro w h; (try dsimp only at h); go_simp; try with_reducible rfl
   try simp only [sA, sB, sC]
   refine tq (i := 29) (v := ?v29) rfl rfl (by kernel_rfl) (fun _ _ _ h => h) ?y29 (by assumption) ?r29
   case y29 => intro w h; (try dsimp only at h); go_simp; try with_reducible rfl
   try simp only [sA, sB, sC]
   refine wpAnyH_done (by kernel_rfl) ?_ _
   have HBX := hide hbx
   clear hbx hb1 y0 y1 y2 y3
   go_wp2
   go_ret
   rw [HE.out]
   exact ⟨rfl, HBX.out⟩
 | false =>
   refine wp_region_held_drew (S := (fun w' => w'.cell? ⟨g, 0, none⟩ = some C.v0 ∧ w'.cell? ⟨g, 1, none⟩ = some C.v1 ∧ w'.cell? ⟨g, 2, none⟩ = some (.pointer (some ⟨C.gf, 0, none⟩)) ∧ w'.cell? ⟨g, 3, none⟩ = some (.string C.cwd))) (by kernel_rfl) ⟨hc0, hc1, hc2, hc3⟩ (fun hHeld => ?_)
   refine tq (i := 0) (v := ?vB0) rfl rfl (by kernel_rfl) (fun _ _ _ h => h) ?yB0 (by assumption) ?rB0
   case yB0 => intro w h; (try dsimp only at h); go_simp; try with_reducible rfl
   try simp only [sA, sB, sC]
   refine tq (i := 1) (v := ?vB1) rfl rfl (by kernel_rfl) (fun _ _ _ h => h) ?yB1 (by assumption) ?rB1
   case yB1 => intro w h; (try dsimp only at h); go_simp; try with_reducible rfl
   try simp only [sA, sB, sC]
   refine tq (i := 2) (v := ?vB2) rfl rfl (by kernel_rfl) (fun _ _ _ h => h) ?yB2 (by assumption) ?rB2
   case yB2 => intro w h; (try dsimp only at h); go_simp; try with_reducible rfl
   try simp only [sA, sB, sC]
   refine tq (i := 3) (v := ?vB3) rfl rfl (by kernel_rfl) (fun _ _ _ h => h) ?yB3 (by assumption) ?rB3
   case yB3 => intro w h; (try dsimp only at h); go_simp; try with_reducible rfl
   try simp only [sA, sB, sC]
   refine tq (i := 4) (v := ?vB4) rfl rfl (by kernel_rfl) (fun _ _ _ h => h) ?yB4 (by assumption) ?rB4
   case yB4 => intro w h; (try dsimp only at h); go_simp; try with_reducible rfl
   try simp only [sA, sB, sC]
   refine tq (i := 5) (v := ?vB5) rfl rfl (by kernel_rfl) (fun _ _ _ h => h) ?yB5 (by assumption) ?rB5
   case yB5 => intro w h; (try dsimp only at h); go_simp; try with_reducible rfl
   try simp only [sA, sB, sC]
   refine tq (i := 6) (v := ?vB6) rfl rfl (by kernel_rfl) (fun _ _ _ h => h) ?yB6 (by assumption) ?rB6
   case yB6 => intro w h; (try dsimp only at h); go_simp; try with_reducible rfl
   try simp only [sA, sB, sC]
   refine tq (i := 7) (v := ?vB7) rfl rfl (by kernel_rfl) (fun _ _ _ h => h) ?yB7 (by assumption) ?rB7
   case yB7 => intro w h; (try dsimp only at h); go_simp; try with_reducible rfl
   try simp only [sA, sB, sC]
   refine tq (i := 8) (v := ?vB8) rfl rfl (by kernel_rfl) (fun _ _ _ h => h) ?yB8 (by assumption) ?rB8
   case yB8 => intro w h; (try dsimp only at h); go_simp; try with_reducible rfl
   try simp only [sA, sB, sC]
   refine tq (i := 9) (v := ?vB9) rfl rfl (by kernel_rfl) (fun _ _ _ h => h) ?yB9 (by assumption) ?rB9
   case yB9 => intro w h; (try dsimp only at h); go_simp; try with_reducible rfl
   try simp only [sA, sB, sC]
   refine tq (i := 10) (v := ?vB10) rfl rfl (by kernel_rfl) (fun _ _ _ h => h) ?yB10 (by assumption) ?rB10
   case yB10 => intro w h; (try dsimp only at h); go_simp; try with_reducible rfl
   try simp only [sA, sB, sC]
   refine tq (i := 11) (v := ?vB11) rfl rfl (by kernel_rfl) (fun _ _ _ h => h) ?yB11 (by assumption) ?rB11
   case yB11 => intro w h; (try dsimp only at h); go_simp; try with_reducible rfl
   try simp only [sA, sB, sC]
   refine tq (i := 12) (v := ?vB12) rfl rfl (by kernel_rfl) (fun _ _ _ h => h) ?yB12 (by assumption) ?rB12
   case yB12 => intro w h; (try dsimp only at h); go_simp; try with_reducible rfl
   try simp only [sA, sB, sC]
   refine rq (k := 13) rfl (by kernel_rfl) (by kernel_rfl) (fun K hK => ?_)
   go_simp
   refine (HPL.out _ hbd).mono ?_
   rintro e w1 ⟨vn, vr, rfl, _, _, hb1⟩
   have hbx := below_up hbd hb1 hbd.size
   have y0 := (hbx.cell (p := ⟨g, 0, none⟩) hgl).trans hc0
   have y1 := (hbx.cell (p := ⟨g, 1, none⟩) hgl).trans hc1
   have y2 := (hbx.cell (p := ⟨g, 2, none⟩) hgl).trans hc2
   have y3 := (hbx.cell (p := ⟨g, 3, none⟩) hgl).trans hc3
   refine hK.out _ _ ⟨y0, y1, y2, y3⟩ (fun _ => ?_)
   clear hK K
   try simp only [Act.put, sA, sB, sC]
   refine tq (i := 14) (v := ?vB14) rfl rfl (by kernel_rfl) (fun _ _ _ h => h) ?yB14 (by assumption) ?rB14
   case yB14 => intro w h; (try dsimp only at h); go_simp; try with_reducible rfl
   try simp only [sA, sB, sC]
   refine tq (i := 15) (v := ?vB15) rfl rfl (by kernel_rfl) (fun _ _ _ h => h) ?yB15 (by assumption) ?rB15
   case yB15 => intro w h; (try dsimp only at h); go_simp; try with_reducible rfl
   try simp only [sA, sB, sC]
   refine tq (i := 16) (v := ?vB16) rfl rfl (by kernel_rfl) (fun _ _ _ h => h) ?yB16 (by assumption) ?rB16
   case yB16 => intro w h; (try dsimp only at h); go_simp; try with_reducible rfl
   try simp only [sA, sB, sC]
   refine tq (i := 17) (v := ?vB17) rfl rfl (by kernel_rfl) (fun _ _ _ h => h) ?yB17 (by assumption) ?rB17
   case yB17 => intro w h; (try dsimp only at h); go_simp; try with_reducible rfl
   try simp only [sA, sB, sC]
   refine tq (i := 18) (v := ?vB18) rfl rfl (by kernel_rfl) (fun _ _ _ h => h) ?yB18 (by assumption) ?rB18
   case yB18 => intro w h; (try dsimp only at h); go_simp; try with_reducible rfl
   try simp only [sA, sB, sC]
   refine tq (i := 19) (v := ?vB19) rfl rfl (by kernel_rfl) (fun _ _ _ h => h) ?yB19 (by assumption) ?rB19
   case yB19 => intro w h; (try dsimp only at h); go_simp; try with_reducible rfl
   try simp only [sA, sB, sC]
   refine tq (i := 20) (v := ?vB20) rfl rfl (by kernel_rfl) (fun _ _ _ h => h) ?yB20 (by assumption) ?rB20
   case yB20 => intro w h; (try dsimp only at h); go_simp; try with_reducible rfl
   try simp only [sA, sB, sC]
   refine tq (i := 21) (v := ?vB21) rfl rfl (by kernel_rfl) (fun _ _ _ h => h) ?yB21 (by assumption) ?rB21
   case yB21 => intro w h; (try dsimp only at h); go_simp; try with_reducible rfl
   try simp only [sA, sB, sC]
   refine tq (i := 22) (v := ?vB22) rfl rfl (by kernel_rfl) (fun _ _ _ h => h) ?yB22 (by assumption) ?rB22
   case yB22 => intro w h; (try dsimp only at h); go_simp; try with_reducible rfl
   try simp only [sA, sB, sC]
   refine tq (i := 23) (v := ?vB23) rfl rfl (by kernel_rfl) (fun _ _ _ h => h) ?yB23 (by assumption) ?rB23
   case yB23 => intro w h; (try dsimp only at h); go_simp; try with_reducible rfl
   try simp only [sA, sB, sC]
   refine tq (i := 24) (v := ?vB24) rfl rfl (by kernel_rfl) (fun _ _ _ h => h) ?yB24 (by assumption) ?rB24
   case yB24 => intro w h; (try dsimp only at h); go_simp; try with_reducible rfl
   try simp only [sA, sB, sC]
   refine tq (i := 25) (v := ?vB25) rfl rfl (by kernel_rfl) (fun _ _ _ h => h) ?yB25 (by assumption) ?rB25
   case yB25 => intro w h; (try dsimp only at h); go_simp; try with_reducible rfl
   try simp only [sA, sB, sC]
   refine rq (k := 26) rfl (by kernel_rfl) (by kernel_rfl) (fun K hK => ?_)
   go_simp
   refine (HIS.out _ hbx).mono ?_
   rintro e w2 ⟨rfl, hb2⟩
   have hbz := below_up hbx hb2 hbx.size
   have z0 := (hbz.cell (p := ⟨g, 0, none⟩) hgl).trans hc0
   have z1 := (hbz.cell (p := ⟨g, 1, none⟩) hgl).trans hc1
   have z2 := (hbz.cell (p := ⟨g, 2, none⟩) hgl).trans hc2
   have z3 := (hbz.cell (p := ⟨g, 3, none⟩) hgl).trans hc3
   refine hK.out _ _ ⟨z0, z1, z2, z3⟩ (fun _ => ?_)
   clear hK K
   try simp only [Act.put, sA, sB, sC]
   refine tq (i := 27) (v := ?vB27) rfl rfl (by kernel_rfl) (fun _ _ _ h => h) ?yB27 (by assumption) ?rB27
   case yB27 => intro w h; (try dsimp only at h); go_simp; try with_reducible rfl
   try simp only [sA, sB, sC]
   refine tq (i := 28) (v := ?vB28) rfl rfl (by kernel_rfl) (fun _ _ _ h => h) ?yB28 (by assumption) ?rB28
   case yB28 => intro w h; (try dsimp only at h); go_simp; try with_reducible rfl
   try simp only [sA, sB, sC]
   refine tq (i := 29) (v := ?vB29) rfl rfl (by kernel_rfl) (fun _ _ _ h => h) ?yB29 (by assumption) ?rB29
   case yB29 => intro w h; (try dsimp only at h); go_simp; try with_reducible rfl
   try simp only [sA, sB, sC]
   refine wpAnyH_done (by kernel_rfl) ?_ _
   have HBX := hide hbz
   clear hbx hbz hb1 hb2 y0 y1 y2 y3 z0 z1 z2 z3
   cases ib with
   | true =>
     have HE := hide (HRR.out.trans (if_neg (by simp)))
     go_wp2
     go_ret
     rw [HE.out]
     exact ⟨rfl, HBX.out⟩
   | false =>
     have HE := hide (HRR.out.trans (if_pos ⟨rfl, rfl⟩))
     go_wp2
     go_ret
     rw [HE.out]
     exact ⟨rfl, HBX.out⟩
end
section
open Go.RowKit Go.Deep Go.Maps Ln Pth Vf
attribute [local go_sem] bt_eq pfld0 pfld3
theorem GI.push_run {w0 w1 w2 : World} {C : Gc} {g b : Nat} {s : Se} {T : Nat → Prop} (h : GI w0 C g b s T w1) (hb : Below w1.heap.size w1 w2) {A4 : Option Addr} {n c4 : Nat} (hc4 : w1.cell? ⟨g, 4, none⟩ = some (.slice A4 n c4)) (hn : n ≤ 1000) (x : ByteArray) (A5 : Option Addr) (c5 : Nat) (N : List ByteArray) (hN : SR w2 A5 N) (how : ∀ a, A5 = some a → N ≠ [] → w1.heap.size ≤ a.block) (hcap : N.length ≤ c5) :
   ∃ A9 c9 w4, (Builtin.append_ #[76, 76] 76 #[.slice A4 n c4, .slice (some ⟨w2.heap.size, 0, none⟩) 1 1]).run Tryz.prog (w2.alloc (.cells #[.string x, .slice A5 N.length c5] 121)) = .ok (.slice A9 (n + 1) c9) w4 ∧
     (w4.cell? ⟨g, 0, none⟩ = some C.v0 ∧ w4.cell? ⟨g, 1, none⟩ = some C.v1 ∧ w4.cell? ⟨g, 2, none⟩ = some (.pointer (some ⟨C.gf, 0, none⟩)) ∧ w4.cell? ⟨g, 3, none⟩ = some (.string C.cwd)) ∧ (w4.cell? ⟨g, 4, none⟩ = some (.slice A4 n c4) ∧ w4.frozen? ⟨g, 4, none⟩ = false) ∧
     ((w4.setCell ⟨g, 4, none⟩ (.slice A9 (n + 1) c9)).cell? ⟨g, 0, none⟩ = some C.v0 ∧ (w4.setCell ⟨g, 4, none⟩ (.slice A9 (n + 1) c9)).cell? ⟨g, 1, none⟩ = some C.v1 ∧ (w4.setCell ⟨g, 4, none⟩ (.slice A9 (n + 1) c9)).cell? ⟨g, 2, none⟩ = some (.pointer (some ⟨C.gf, 0, none⟩)) ∧ (w4.setCell ⟨g, 4, none⟩ (.slice A9 (n + 1) c9)).cell? ⟨g, 3, none⟩ = some (.string C.cwd)) ∧
     GIP w0 C g b ⟨(x, N) :: s.way, s.met, s.done⟩ T w1 (w4.setCell ⟨g, 4, none⟩ (.slice A9 (n + 1) c9)) := by
 have hba := hb.alloc hb.size (.cells #[.string x, .slice A5 N.length c5] 121)
 have h3 := h.step hba
 obtain ⟨A4', c4', A6, c6, wl, h1, h2, h3', h4, h5, h6, h7, h8, h9, h10⟩ := h3.opn
 have hgl := (h.tw g h.tg).2
 have e := (cellOf h1 (j := 4) (v := .slice A4' wl.length c4') rfl).symm.trans ((hba.cell (p := ⟨g, 4, none⟩) hgl).trans hc4)
 injection e with e
 injection e with e1 e2 e3
 subst e1 e2 e3
 have hx : RG encO 2 (w2.alloc (.cells #[.string x, .slice A5 N.length c5] 121)) (some ⟨w2.heap.size, 0, none⟩) [⟨x, (A5, c5, N)⟩] := rg_new (enc := encO) (n := 2) w2 ⟨x, (A5, c5, N)⟩ 121
 obtain ⟨v4, w4, hrun, ho, hg, hv⟩ := run_appG rowO encO_len encO_one (c := 1) h2 hx h3.below.size (by simp; omega)
 obtain ⟨A9, c9, e9, _, _, _, _⟩ := ho.slice encO_len
 rw [List.length_append, List.length_singleton] at e9
 subst e9
 have hgne : some g ≠ (Value.slice A4' wl.length c4').ownBlock := fun e => (h4 g e.symm).2.1 rfl
 have hg4 := (hg.block g (by have := hba.size; omega) hgne).trans h1
 have hg5 := heapSet (j := 4) hg4 (.slice A9 (wl.length + 1) c9)
 have hw : GIP w0 C g b ⟨(x, N) :: s.way, s.met, s.done⟩ T (w2.alloc (.cells #[.string x, .slice A5 N.length c5] 121)) (w4.setCell ⟨g, 4, none⟩ (.slice A9 (wl.length + 1) c9)) :=
   h3.push h1 h3' h4 h5 h6 h7 (o := ⟨x, (A5, c5, N)⟩) (hN.below ((Below.refl w2.heap.size w2).alloc (Nat.le_refl _) _)) ⟨fun a e h8 ht => by have := how a e h8; have := (h.tw _ ht).2; omega, hcap⟩ ho hg hv
 refine ⟨A9, c9, w4, hrun, ⟨cellOf hg4 (j := 0) rfl, cellOf hg4 (j := 1) rfl, cellOf hg4 (j := 2) rfl, cellOf hg4 (j := 3) rfl⟩, ⟨cellOf hg4 (j := 4) rfl, freeOf hg4 4⟩, ⟨cellOf hg5 (j := 0) rfl, cellOf hg5 (j := 1) rfl, cellOf hg5 (j := 2) rfl, cellOf hg5 (j := 3) rfl⟩, ?_⟩
 obtain ⟨T', f, k, gr⟩ := hw
 exact ⟨T', f, (Kp.of_below hba T).trans (k.mono fun q hq => .inl hq), fun q hq => (gr q hq).imp_right (Nat.le_trans hba.size)⟩
set_option linter.unusedSimpArgs false in
theorem enter_any (w0 : World) (C : Gc) (P : ByteArray → Pn) (is : ByteArray → Bool) (Gd : Nat → ByteArray → Prop) (hG : GH w0 C P is Gd) (g b : Nat) (s : Se) (T : Nat → Prop) (x : ByteArray) (w : World) (h : GI w0 C g b s T w) (hx : Gd s.met.length x) (hnx : x ∉ s.met) (hw : s.way.length ≤ 999) (hme : s.met.length ≤ 1000) :
   Calls Tryz.prog 75 #[.pointer (some ⟨g, 0, none⟩), .string x] w fun e w' => e = .returned (.tuple #[]) ∧ GIP w0 C g b ⟨(x, (P x).needs) :: s.way, s.met ++ [x], s.done⟩ T w w' := by
 have hxs := hG.size _ x (by omega) hx
 obtain ⟨w1, r1, hm1, hk1, hz1⟩ := h.met.add (by omega) (s := x) (by omega)
 have hi1 := h.meet hnx hm1 hk1 hz1
 have hbw := hi1.below
 have HPL := hide (fun (W : World) (hb : Below w1.heap.size w1 W) => hG.plan _ W x (by omega) hx (below_up hbw hb hbw.size))
 have hc5 : w.cell? ⟨g, 5, none⟩ = some (.map (some b)) := by
   obtain ⟨vw, vd, wl, h1, _⟩ := h.body
   exact cellOf h1 (j := 5) rfl
 obtain ⟨A4, c4, A6, c6, wl, h1, h2, h3, h4, h5, h6, h7, h8, h9, h10⟩ := hi1.opn
 have hwl : wl.length ≤ 999 := by rw [← way_len h6]; exact hw
 obtain ⟨n, hn⟩ : ∃ n, wl.length = n := ⟨_, rfl⟩
 rw [hn] at h1 hwl
 have hc0 := cellOf h1 (j := 0) (v := C.v0) rfl
 have hc1 := cellOf h1 (j := 1) (v := C.v1) rfl
 have hc2 := cellOf h1 (j := 2) (v := .pointer (some ⟨C.gf, 0, none⟩)) rfl
 have hc3 := cellOf h1 (j := 3) (v := .string C.cwd) rfl
 have hc4 := cellOf h1 (j := 4) (v := .slice A4 n c4) rfl
 have hgl := (hi1.tw g hi1.tg).2
 obtain ⟨q, hq⟩ : ∃ q, P x = q := ⟨_, rfl⟩
 rw [hq] at HPL ⊢
 obtain ⟨stem, hst⟩ : ∃ s, bs q.stem = s := ⟨_, rfl⟩
 obtain ⟨ru, hru⟩ : ∃ s, q.rule = s := ⟨_, rfl⟩
 obtain ⟨N, hN⟩ : ∃ s, q.needs = s := ⟨_, rfl⟩
 unfold PlanPost at HPL
 rw [hst, hru, hN] at HPL
 rw [hN]
 have HFIN := hide (fun (w2 : World) (hb : Below w1.heap.size w1 w2) (A5 : Option Addr) (c5 : Nat) (hs : SR w2 A5 N) (hw : ∀ a, A5 = some a → N ≠ [] → w1.heap.size ≤ a.block) (hcap : N.length ≤ c5) => hi1.push_run hb hc4 (by omega) x A5 c5 N hs hw hcap)
 have HKS := hide (fun (w' : World) (h : GIP w0 C g b ⟨(x, N) :: s.way, s.met ++ [x], s.done⟩ T w1 w') => show GIP w0 C g b ⟨(x, N) :: s.way, s.met ++ [x], s.done⟩ T w w' from by
   obtain ⟨T', f, k, gr⟩ := h
   exact ⟨T', f, (hk1.mono fun k e => e ▸ hi1.tb).trans (k.mono fun q hq => .inl hq), fun q hq => (gr q hq).imp_right (by rw [hz1]; exact id)⟩)
 clear hn hq hst hru hN h2 h3 h4 h5 h6 h7 h8 h9 h10 h h1 hx hG hbw hm1 hk1 hz1 hi1 hnx hme hw
 have hbd : Below w1.heap.size w1 w1.drew := (Below.refl _ _).drew
 go_enter Tryz.func75, Tryz.ntmps75
 go_wp2_with fail
 refine wp_region_held_drew (S := (fun w' => w'.cell? ⟨g, 0, none⟩ = some C.v0 ∧ w'.cell? ⟨g, 1, none⟩ = some C.v1 ∧ w'.cell? ⟨g, 2, none⟩ = some (.pointer (some ⟨C.gf, 0, none⟩)) ∧ w'.cell? ⟨g, 3, none⟩ = some (.string C.cwd))) (by kernel_rfl) ⟨hc0, hc1, hc2, hc3⟩ (fun hHeld => ?_)
 refine tq (i := 0) (v := ?v0) rfl rfl (by kernel_rfl) (fun _ _ _ h => h) ?y0 (by assumption) ?r0
 case y0 => intro w h; (try dsimp only at h); go_simp; try with_reducible rfl
 try simp only [sA, sB, sC]
 refine tq (i := 1) (v := ?v1) rfl rfl (by kernel_rfl) (fun _ _ _ h => h) ?y1 (by assumption) ?r1
 case y1 => intro w h; (try dsimp only at h); go_simp; try with_reducible rfl
 try simp only [sA, sB, sC]
 refine tq (i := 2) (v := ?v2) rfl rfl (by kernel_rfl) (fun _ _ _ h => h) ?y2 (by assumption) ?r2
 case y2 => intro w h; (try dsimp only at h); go_simp; try with_reducible rfl
 try simp only [sA, sB, sC]
 refine tq (i := 3) (v := ?v3) rfl rfl (by kernel_rfl) (fun _ _ _ h => h) ?y3 (by assumption) ?r3
 case y3 => intro w h; (try dsimp only at h); go_simp; try with_reducible rfl
 try simp only [sA, sB, sC]
 refine tq (i := 5) (v := ?v5) rfl rfl (by kernel_rfl) (fun _ _ _ h => h) ?y5 (by assumption) ?r5
 case y5 => intro w h; (try dsimp only at h); go_simp; try with_reducible rfl
 try simp only [sA, sB, sC]
 refine tq (i := 6) (v := ?v6) rfl rfl (by kernel_rfl) (fun _ _ _ h => h) ?y6 (by assumption) ?r6
 case y6 => intro w h; (try dsimp only at h); go_simp; try with_reducible rfl
 try simp only [sA, sB, sC]
 refine tq (i := 7) (v := ?v7) rfl rfl (by kernel_rfl) (fun _ _ _ h => h) ?y7 (by assumption) ?r7
 case y7 => intro w h; (try dsimp only at h); go_simp; try with_reducible rfl
 try simp only [sA, sB, sC]
 refine tq (i := 8) (v := ?v8) rfl rfl (by kernel_rfl) (fun _ _ _ h => h) ?y8 (by assumption) ?r8
 case y8 => intro w h; (try dsimp only at h); go_simp; try with_reducible rfl
 try simp only [sA, sB, sC]
 refine tq (i := 9) (v := ?v9) rfl rfl (by kernel_rfl) (fun _ _ _ h => h) ?y9 (by assumption) ?r9
 case y9 => intro w h; (try dsimp only at h); go_simp; try with_reducible rfl
 try simp only [sA, sB, sC]
 refine tq (i := 10) (v := ?v10) rfl rfl (by kernel_rfl) (fun _ _ _ h => h) ?y10 (by assumption) ?r10
 case y10 => intro w h; (try dsimp only at h); go_simp; try with_reducible rfl
 try simp only [sA, sB, sC]
 refine tq (i := 11) (v := ?v11) rfl rfl (by kernel_rfl) (fun _ _ _ h => h) ?y11 (by assumption) ?r11
 case y11 => intro w h; (try dsimp only at h); go_simp; try with_reducible rfl
 try simp only [sA, sB, sC]
 refine tq (i := 12) (v := ?v12) rfl rfl (by kernel_rfl) (fun _ _ _ h => h) ?y12 (by assumption) ?r12
 case y12 => intro w h; (try dsimp only at h); go_simp; try with_reducible rfl
 try simp only [sA, sB, sC]
 refine tq (i := 13) (v := ?v13) rfl rfl (by kernel_rfl) (fun _ _ _ h => h) ?y13 (by assumption) ?r13
 case y13 => intro w h; (try dsimp only at h); go_simp; try with_reducible rfl
 try simp only [sA, sB, sC]
 refine tq (i := 14) (v := ?v14) rfl rfl (by kernel_rfl) (fun _ _ _ h => h) ?y14 (by assumption) ?r14
 case y14 => intro w h; (try dsimp only at h); go_simp; try with_reducible rfl
 try simp only [sA, sB, sC]
 refine tq (i := 15) (v := ?v15) rfl rfl (by kernel_rfl) (fun _ _ _ h => h) ?y15 (by assumption) ?r15
 case y15 => intro w h; (try dsimp only at h); go_simp; try with_reducible rfl
 try simp only [sA, sB, sC]
 refine tq (i := 16) (v := ?v16) rfl rfl (by kernel_rfl) (fun _ _ _ h => h) ?y16 (by assumption) ?r16
 case y16 => intro w h; (try dsimp only at h); go_simp; try with_reducible rfl
 try simp only [sA, sB, sC]
 refine tq (i := 17) (v := ?v17) rfl rfl (by kernel_rfl) (fun _ _ _ h => h) ?y17 (by assumption) ?r17
 case y17 => intro w h; (try dsimp only at h); go_simp; try with_reducible rfl
 try simp only [sA, sB, sC]
 refine tq (i := 18) (v := ?v18) rfl rfl (by kernel_rfl) (fun _ _ _ h => h) ?y18 (by assumption) ?r18
 case y18 => intro w h; (try dsimp only at h); go_simp; try with_reducible rfl
 try simp only [sA, sB, sC]
 refine wpAnyH_ready (rs := [4, 19]) (by kernel_rfl) (by simp) ?_
 refine AllReadyH.cons (o := _) rfl (fun K hK => ?_) (AllReadyH.cons (o := _) rfl (fun K hK => ?_) AllReadyH.nil)
 · rw [if_pos (by kernel_rfl)]
   go_simp
   refine hK.out _ _ ⟨hc0, hc1, hc2, hc3⟩ (fun _ => ?_)
   clear hK K
   try simp only [Act.put, sA, sB, sC]
   refine rq (k := 19) rfl (by kernel_rfl) (by kernel_rfl) (fun K hK => ?_)
   go_simp
   refine (HPL.out _ hbd).mono ?_
   rintro e w2 ⟨vn, vr, rfl, ho1, _, hb1⟩
   obtain ⟨A5, c5, rfl, l5, s5, z5⟩ := ho1.slice
   have hbx := below_up hbd hb1 hbd.size
   have y0 := (hbx.cell (p := ⟨g, 0, none⟩) hgl).trans hc0
   have y1 := (hbx.cell (p := ⟨g, 1, none⟩) hgl).trans hc1
   have y2 := (hbx.cell (p := ⟨g, 2, none⟩) hgl).trans hc2
   have y3 := (hbx.cell (p := ⟨g, 3, none⟩) hgl).trans hc3
   have y4 := (hbx.cell (p := ⟨g, 4, none⟩) hgl).trans hc4
   refine hK.out _ _ ⟨y0, y1, y2, y3⟩ (fun _ => ?_)
   clear hK K
   try simp only [Act.put, sA, sB, sC]
   obtain ⟨A9, c9, w4, hrun, hcs, ⟨hx4, hf4⟩, hcs2, hfin⟩ := HFIN.out w2 hbx A5 c5 s5 (fun a e _ => (World.ownsRow.lt ho1 a.block (z5 a e)).1) l5
   have hba := (Below.refl w2.heap.size w2).alloc (Nat.le_refl _) (.cells #[.string x, .slice A5 N.length c5] 121)
   have hgl2 : g < w2.heap.size := Nat.lt_of_lt_of_le hgl hbx.size
   have u0 := (hba.cell (p := ⟨g, 0, none⟩) hgl2).trans y0
   have u1 := (hba.cell (p := ⟨g, 1, none⟩) hgl2).trans y1
   have u2 := (hba.cell (p := ⟨g, 2, none⟩) hgl2).trans y2
   have u3 := (hba.cell (p := ⟨g, 3, none⟩) hgl2).trans y3
   refine tq (i := 20) (v := ?vA20) rfl rfl (by kernel_rfl) (fun _ _ _ h => h) ?yA20 (by assumption) ?rA20
   case yA20 => intro w h; (try dsimp only at h); go_simp; try with_reducible rfl
   try simp only [sA, sB, sC]
   refine tq (i := 21) (v := ?vA21) rfl rfl (by kernel_rfl) (fun _ _ _ h => h) ?yA21 (by assumption) ?rA21
   case yA21 => intro w h; (try dsimp only at h); go_simp; try with_reducible rfl
   try simp only [sA, sB, sC]
   refine rq (k := 22) rfl (by kernel_rfl) (by kernel_rfl) (fun K hK => ?_)
   go_simp
   refine hK.out _ _ ⟨u0, u1, u2, u3⟩ (fun _ => ?_)
   clear hK K
   try simp only [Act.put, sA, sB, sC]
   refine wpAnyH_ready (rs := [23]) (by kernel_rfl) (by simp) ?_
   refine AllReadyH.cons (o := _) rfl (fun K hK => ?_) AllReadyH.nil
   refine step_app_run rfl _ _ rfl rfl rfl rfl hrun ?_
   refine hK.out _ _ hcs (fun _ => ?_)
   clear hK K
   try simp only [Act.put, sA, sB, sC]
   refine tq (i := 24) (v := ?vA24) rfl rfl (by kernel_rfl) (fun _ _ _ h => h) ?yA24 (by assumption) ?rA24
   case yA24 => intro w h; (try dsimp only at h); go_simp; try with_reducible rfl
   try simp only [sA, sB, sC]
   refine tq (i := 25) (v := ?vA25) rfl rfl (by kernel_rfl) (fun _ _ _ h => h) ?yA25 (by assumption) ?rA25
   case yA25 => intro w h; (try dsimp only at h); go_simp; try with_reducible rfl
   try simp only [sA, sB, sC]
   refine rq (k := 26) rfl (by kernel_rfl) (by kernel_rfl) (fun K hK => ?_)
   go_simp
   refine hK.out _ _ hcs2 (fun _ => ?_)
   clear hK K
   try simp only [Act.put, sA, sB, sC]
   refine wpAnyH_done (by kernel_rfl) ?_ _
   have HFIN2 := hide (HKS.out _ hfin)
   clear hfin hcs hcs2
   go_wp2
   go_end0
   exact ⟨rfl, HFIN2.out⟩
 · rw [if_pos (by kernel_rfl)]
   go_simp
   refine (HPL.out _ hbd).mono ?_
   rintro e w2 ⟨vn, vr, rfl, ho1, _, hb1⟩
   obtain ⟨A5, c5, rfl, l5, s5, z5⟩ := ho1.slice
   have hbx := below_up hbd hb1 hbd.size
   have y0 := (hbx.cell (p := ⟨g, 0, none⟩) hgl).trans hc0
   have y1 := (hbx.cell (p := ⟨g, 1, none⟩) hgl).trans hc1
   have y2 := (hbx.cell (p := ⟨g, 2, none⟩) hgl).trans hc2
   have y3 := (hbx.cell (p := ⟨g, 3, none⟩) hgl).trans hc3
   have y4 := (hbx.cell (p := ⟨g, 4, none⟩) hgl).trans hc4
   refine hK.out _ _ ⟨y0, y1, y2, y3⟩ (fun _ => ?_)
   clear hK K
   try simp only [Act.put, sA, sB, sC]
   refine tq (i := 20) (v := ?vB20) rfl rfl (by kernel_rfl) (fun _ _ _ h => h) ?yB20 (by assumption) ?rB20
   case yB20 => intro w h; (try dsimp only at h); go_simp; try with_reducible rfl
   try simp only [sA, sB, sC]
   refine tq (i := 21) (v := ?vB21) rfl rfl (by kernel_rfl) (fun _ _ _ h => h) ?yB21 (by assumption) ?rB21
   case yB21 => intro w h; (try dsimp only at h); go_simp; try with_reducible rfl
   try simp only [sA, sB, sC]
   obtain ⟨A9, c9, w4, hrun, hcs, ⟨hx4, hf4⟩, hcs2, hfin⟩ := HFIN.out w2 hbx A5 c5 s5 (fun a e _ => (World.ownsRow.lt ho1 a.block (z5 a e)).1) l5
   have hba := (Below.refl w2.heap.size w2).alloc (Nat.le_refl _) (.cells #[.string x, .slice A5 N.length c5] 121)
   have hgl2 : g < w2.heap.size := Nat.lt_of_lt_of_le hgl hbx.size
   have u0 := (hba.cell (p := ⟨g, 0, none⟩) hgl2).trans y0
   have u1 := (hba.cell (p := ⟨g, 1, none⟩) hgl2).trans y1
   have u2 := (hba.cell (p := ⟨g, 2, none⟩) hgl2).trans y2
   have u3 := (hba.cell (p := ⟨g, 3, none⟩) hgl2).trans y3
   refine wpAnyH_ready (rs := [4, 22]) (by kernel_rfl) (by simp) ?_
   refine AllReadyH.cons (o := _) rfl (fun K hK => ?_) (AllReadyH.cons (o := _) rfl (fun K hK => ?_) AllReadyH.nil)
   · rw [if_pos (by kernel_rfl)]
     go_simp
     refine hK.out _ _ ⟨y0, y1, y2, y3⟩ (fun _ => ?_)
     clear hK K
     try simp only [Act.put, sA, sB, sC]
     refine rq (k := 22) rfl (by kernel_rfl) (by kernel_rfl) (fun K hK => ?_)
     go_simp
     refine hK.out _ _ ⟨u0, u1, u2, u3⟩ (fun _ => ?_)
     clear hK K
     try simp only [Act.put, sA, sB, sC]
     refine wpAnyH_ready (rs := [23]) (by kernel_rfl) (by simp) ?_
     refine AllReadyH.cons (o := _) rfl (fun K hK => ?_) AllReadyH.nil
     refine step_app_run rfl _ _ rfl rfl rfl rfl hrun ?_
     refine hK.out _ _ hcs (fun _ => ?_)
     clear hK K
     try simp only [Act.put, sA, sB, sC]
     refine tq (i := 24) (v := ?vC24) rfl rfl (by kernel_rfl) (fun _ _ _ h => h) ?yC24 (by assumption) ?rC24
     case yC24 => intro w h; (try dsimp only at h); go_simp; try with_reducible rfl
     try simp only [sA, sB, sC]
     refine tq (i := 25) (v := ?vC25) rfl rfl (by kernel_rfl) (fun _ _ _ h => h) ?yC25 (by assumption) ?rC25
     case yC25 => intro w h; (try dsimp only at h); go_simp; try with_reducible rfl
     try simp only [sA, sB, sC]
     refine rq (k := 26) rfl (by kernel_rfl) (by kernel_rfl) (fun K hK => ?_)
     go_simp
     refine hK.out _ _ hcs2 (fun _ => ?_)
     clear hK K
     try simp only [Act.put, sA, sB, sC]
     refine wpAnyH_done (by kernel_rfl) ?_ _
     have HFIN2 := hide (HKS.out _ hfin)
     clear hfin hcs hcs2
     go_wp2
     go_end0
     exact ⟨rfl, HFIN2.out⟩
   · rw [if_pos (by kernel_rfl)]
     go_simp
     refine hK.out _ _ ⟨u0, u1, u2, u3⟩ (fun _ => ?_)
     clear hK K
     have u4 := (hba.cell (p := ⟨g, 4, none⟩) hgl2).trans y4
     try simp only [Act.put, sA, sB, sC]
     refine rq (k := 4) rfl (by kernel_rfl) (by kernel_rfl) (fun K hK => ?_)
     go_simp
     refine hK.out _ _ ⟨u0, u1, u2, u3⟩ (fun _ => ?_)
     clear hK K
     try simp only [Act.put, sA, sB, sC]
     refine wpAnyH_ready (rs := [23]) (by kernel_rfl) (by simp) ?_
     refine AllReadyH.cons (o := _) rfl (fun K hK => ?_) AllReadyH.nil
     refine step_app_run rfl _ _ rfl rfl rfl rfl hrun ?_
     refine hK.out _ _ hcs (fun _ => ?_)
     clear hK K
     try simp only [Act.put, sA, sB, sC]
     refine tq (i := 24) (v := ?vD24) rfl rfl (by kernel_rfl) (fun _ _ _ h => h) ?yD24 (by assumption) ?rD24
     case yD24 => intro w h; (try dsimp only at h); go_simp; try with_reducible rfl
     try simp only [sA, sB, sC]
     refine tq (i := 25) (v := ?vD25) rfl rfl (by kernel_rfl) (fun _ _ _ h => h) ?yD25 (by assumption) ?rD25
     case yD25 => intro w h; (try dsimp only at h); go_simp; try with_reducible rfl
     try simp only [sA, sB, sC]
     refine rq (k := 26) rfl (by kernel_rfl) (by kernel_rfl) (fun K hK => ?_)
     go_simp
     refine hK.out _ _ hcs2 (fun _ => ?_)
     clear hK K
     try simp only [Act.put, sA, sB, sC]
     refine wpAnyH_done (by kernel_rfl) ?_ _
     have HFIN2 := hide (HKS.out _ hfin)
     clear hfin hcs hcs2
     go_wp2
     go_end0
     exact ⟨rfl, HFIN2.out⟩
end
section
open Go.RowKit Go.Deep Go.Maps Ln Pth Vf
attribute [local go_sem] bt_eq
def GoP (w0 : World) (C : Gc) (P : ByteArray → Pn) (is : ByteArray → Bool) (Gd : Nat → ByteArray → Prop) (g b : Nat) (x : ByteArray) (s : Se) (T : Nat → Prop) (w : World) (e : Ending) (w' : World) : Prop := ∃ (r : Se) (c : Nat), GoR P is x s r c ∧ e = .returned (.int .i64 c) ∧ (c = 0 → SeOk Gd r) ∧ GIP w0 C g b r T w w'
set_option linter.unusedSimpArgs false in
theorem goal_any (w0 : World) (C : Gc) (P : ByteArray → Pn) (is : ByteArray → Bool) (Gd : Nat → ByteArray → Prop) (hG : GH w0 C P is Gd) (g b : Nat) (s : Se) (T : Nat → Prop) (x : ByteArray) (w : World) (h : GI w0 C g b s T w) (hx : Gd s.met.length x) (hok : SeOk Gd s) :
   Calls Tryz.prog 34 #[.pointer (some ⟨g, 0, none⟩), .string x] w (GoP w0 C P is Gd g b x s T w) := by
 have HG := hide hG
 have HH := hide h
 have HOK := hide hok
 have HX := hide hx
 clear hG h hok hx
 go_enter Tryz.func34, Tryz.ntmps34
 go_wp2_with fail
 go_step3
 go_wp2_with fail
 go_step3
 go_wp2_with fail
 go_loopg [4, 5, 6, 7] (mu s) (fun q _ v5 _ _ wr => ∃ (s' : Se) (x' : ByteArray), q = mu s' ∧ v5 = .string x' ∧ Hid (Gd s'.met.length x') ∧ Hid (∀ r c, GoR P is x' s' r c → GoR P is x s r c) ∧ Hid (SeOk Gd s') ∧ GIP w0 C g b s' T w wr)
 case atStart => exact ⟨s, x, rfl, rfl, HX.out, fun _ _ h => h, HOK.out, HH.out.toP (Below.refl _ _)⟩
 case round =>
   obtain ⟨s', x', hq, rfl, HGX, HGO, HSO, hgi⟩ := hrel
   have HMU := hide hq
   have HGI := hide hgi
   obtain ⟨T1, f1, k1, gr1⟩ := hgi
   have hm1 := f1.met
   have hxs := HG.out.size _ x' HSO.out.met HGX.out
   have hlk := hm1.look (s := x') (by omega)
   have hc5 : wr.cell? ⟨g, 5, none⟩ = some (.map (some b)) := by
     obtain ⟨vw, vd, wl, h1, _⟩ := f1.body
     exact cellOf h1 (j := 5) rfl
   have hws := HSO.out.way
   have hms := HSO.out.met
   have HWT := hide (waits_any w0 C g b s' T1 x' wr f1 (by omega))
   have HMY := hide (may_any w0 C P is Gd HG.out g b s' T1 x' wr f1 HGX.out (by omega) (by omega))
   have HEN := hide (fun (hn : x' ∉ s'.met) (hl : s'.way.length ≤ 999) => enter_any w0 C P is Gd HG.out g b s' T1 x' wr f1 HGX.out hn hl hms)
   have HF1 := hide f1
   have HK1 := hide (And.intro k1 gr1)
   obtain ⟨cb, hcb⟩ : ∃ c, Lib.containsS s'.met x' = c := ⟨_, rfl⟩
   rw [hcb] at hlk
   have HCB := hide hcb
   clear hq f1 k1 gr1 hm1 hcb hws hms
   cases cb with
   | true =>
     go_wp2_with fail
     refine HWT.out.mono ?_
     rintro e w2 ⟨rfl, hb2⟩
     have HG2 := hide (show GIP w0 C g b s' T w w2 from by
       obtain ⟨T', f, k, gr⟩ := HF1.out.toP hb2
       exact ⟨T', f, HK1.out.1.trans (k.mono HK1.out.2), fun q hq => by
         rcases gr q hq with h | h
         · exact HK1.out.2 q h
         · exact .inr (Nat.le_trans HK1.out.1.size h)⟩)
     have HEO := hide (ent_old (P := P) (is := is) HCB.out)
     obtain ⟨wb, hwb⟩ : ∃ c, (s'.way.any fun o => decide (o.1 = x')) = c := ⟨_, rfl⟩
     rw [hwb] at HEO ⊢
     clear hwb hb2
     cases wb with
     | true =>
       have HE := hide (show GoR P is x' s' s' 18 from .err HEO.out (by simp))
       go_wp2
       rw [Exit.noGoto_ret]
       go_ret
       exact ⟨s', 18, HGO.out _ _ HE.out, rfl, (fun h => by cases h), HG2.out⟩
     | false =>
       have HE1 := hide (show entF P is x' s' = (0, s') from HEO.out)
       obtain ⟨gkx, hgkx⟩ : ∃ q, gk = q := ⟨_, rfl⟩
       obtain ⟨s1, hs1⟩ : ∃ s1, s' = s1 := ⟨_, rfl⟩
       have HS1 := hide (show SeOk Gd s1 from hs1 ▸ HSO.out)
       have HG1 := hide (show GIP w0 C g b s1 T w w2 from hs1 ▸ HG2.out)
       have HM1 := hide (show mu s1 ≤ gkx by rw [← hgkx, HMU.out, hs1]; exact Nat.le_refl _)
       have HE2 := hide (show entF P is x' s' = (0, s1) from by rw [HE1.out, hs1])
       have HGK := hide hgkx
       clear HE1 HG2 HEO HWT HMY HEN HF1 HK1 hs1 HCB hlk hc5 hgkx
       go_wp2_with fail
       go_loopg [5, 7] s1.way.length (fun q _ _ wz => ∃ (wy : List Opn) (d : List ByteArray), q = wy.length ∧ Hid (popF s1.way s1.done = popF wy d) ∧ Hid (SeOk Gd ⟨wy, s1.met, d⟩) ∧ GIP w0 C g b ⟨wy, s1.met, d⟩ T w wz)
       case atStart => exact ⟨s1.way, s1.done, rfl, rfl, HS1.out, HG1.out⟩
       case round =>
         obtain ⟨wy, d, hqy, HPO, HSY, hgy⟩ := hrel
         generalize wr = wz at *
         obtain ⟨T2, f2, k2, gr2⟩ := hgy
         have HF2 := hide f2
         have HK2 := hide (And.intro k2 gr2)
         cases wy with
         | nil =>
           obtain ⟨A4, c4, A6, c6, hc4, _⟩ := f2.cells
           simp only [List.length_nil] at hc4
           clear f2 k2 gr2 hqy
           have HR := hide (HGO.out _ _ (GoR.fin HE2.out HPO.out))
           have HGZ := hide (show GIP w0 C g b ⟨[], s1.met, d⟩ T w wz from ⟨T2, HF2.out, HK2.out.1, HK2.out.2⟩)
           go_wp2
           (try rw [Exit.noGoto_ret])
           go_ret
           exact ⟨_, 0, HR.out, rfl, fun _ => HSY.out, HGZ.out⟩
         | cons o r =>
           obtain ⟨t, ns⟩ := o
           obtain ⟨bw, c4, An, cn, hc4, hbg, hsn, hco0, hco1, hfr, hcw, hcn0⟩ := f2.top
           obtain ⟨A4', c4', A6, c6, _, hc6, _, hfz, _⟩ := f2.cells
           dsimp only at hc6
           have hsy := HSY.out.way
           have hsm := HSY.out.sum
           have hsl := HSY.out.met
           simp only [List.length_cons] at hsy hsm
           obtain ⟨m, hm⟩ : ∃ m, r.length = m := ⟨_, rfl⟩
           have HM := hide hm
           have HQY := hide hqy
           rw [hm] at hc4 hco0 hco1 hfr hsy hsm
           have hml : m ≤ 199 := by omega
           have hdl : d.length ≤ 1000 := by dsimp only at hsl; omega
           have hmi : (m : Int) ≤ 199 := by omega
           have hwr : IntKind.i64.wrap ((m : Int) + 1 - 1) = (m : Int) := by rw [show (m : Int) + 1 - 1 = (m : Int) by omega]; exact IntWalk.i64_in _ (by omega)
           rw [hm] at hcw
           have hcwi : (m : Int) ≤ (c4 : Int) := by omega
           have hwr2 : IntKind.i64.wrap (m : Int) = (m : Int) := IntWalk.i64_in _ (by omega)
           have hidx0 : (0 : Int) ≤ (m : Int) := by omega
           have hidx1 : (m : Int) < (m : Int) + 1 := by omega
           cases ns with
           | nil =>
             simp only [List.length_nil] at hco1
             have HSP := hide HSY.out.pop
             clear hm hqy hsy hsm hsl f2 k2 gr2 hsn hfr
             go_wp2_with fail
             go_region
             go_wp2_with fail
             obtain ⟨A9, c9, w4, hrun, hf6, hbag, hf4, hfin⟩ := HF2.out.fin_run (w2 := wz.drew.drew) (Below.refl _ _).drew.drew hc6 hc4 hdl t
             obtain ⟨hf60, hf61⟩ := hf6
             have hf0 := hbag _ _ hco0
             have hco0a : (wz.drew.drew.alloc (.cells #[.string t] 9)).cell? ⟨bw, m * 2, none⟩ = some (.string t) := ((Below.refl wz.heap.size wz).drew.drew.alloc (Nat.le_refl _) _ |>.cell (p := ⟨bw, m * 2, none⟩) (World.block_lt_of_cell? _ _ hco0)).trans hco0
             have hc6a : (wz.alloc (.cells #[.string t] 9)).cell? ⟨g, 6, none⟩ = some (.slice A6 d.length c6) := ((Below.refl wz.heap.size wz).alloc (Nat.le_refl _) _ |>.cell (p := ⟨g, 6, none⟩) (World.block_lt_of_cell? _ _ hc6)).trans hc6
             refine wp_region_held_drew (S := (fun w' => w'.cell? ⟨bw, m * 2, none⟩ = some (.string t))) (by kernel_rfl) hco0 (fun hHeld => ?_)
             refine tq (i := 0) (v := ?v0) rfl rfl (by kernel_rfl) (fun _ _ _ h => h) ?y0 (by assumption) ?r0
             case y0 => intro w h; (try dsimp only at h); go_simp; try with_reducible rfl
             try simp only [sA, sB, sC]
             refine tq (i := 1) (v := ?v1) rfl rfl (by kernel_rfl) (fun _ _ _ h => h) ?y1 (by assumption) ?r1
             case y1 => intro w h; (try dsimp only at h); go_simp; try with_reducible rfl
             try simp only [sA, sB, sC]
             refine tq (i := 2) (v := ?v2) rfl rfl (by kernel_rfl) (fun _ _ _ h => h) ?y2 (by assumption) ?r2
             case y2 => intro w h; (try dsimp only at h); go_simp; try with_reducible rfl
             try simp only [sA, sB, sC]
             refine tq (i := 3) (v := ?v3) rfl rfl (by kernel_rfl) (fun _ _ _ h => h) ?y3 (by assumption) ?r3
             case y3 => intro w h; (try dsimp only at h); go_simp; try with_reducible rfl
             try simp only [sA, sB, sC]
             refine tq (i := 5) (v := ?v5) rfl rfl (by kernel_rfl) (fun _ _ _ h => h) ?y5 (by assumption) ?r5
             case y5 => intro w h; (try dsimp only at h); go_simp; try with_reducible rfl
             try simp only [sA, sB, sC]
             refine tq (i := 6) (v := ?v6) rfl rfl (by kernel_rfl) (fun _ _ _ h => h) ?y6 (by assumption) ?r6
             case y6 => intro w h; (try dsimp only at h); go_simp; try with_reducible rfl
             try simp only [sA, sB, sC]
             refine tq (i := 7) (v := ?v7) rfl rfl (by kernel_rfl) (fun _ _ _ h => h) ?y7 (by assumption) ?r7
             case y7 => intro w h; (try dsimp only at h); go_simp; try with_reducible rfl
             try simp only [sA, sB, sC]
             refine tq (i := 8) (v := ?v8) rfl rfl (by kernel_rfl) (fun _ _ _ h => h) ?y8 (by assumption) ?r8
             case y8 => intro w h; (try dsimp only at h); go_simp; try with_reducible rfl
             try simp only [sA, sB, sC]
             refine wpAnyH_ready (rs := [4, 9]) (by kernel_rfl) (by simp) ?_
             refine AllReadyH.cons (o := _) rfl (fun K hK => ?_) (AllReadyH.cons (o := _) rfl (fun K hK => ?_) AllReadyH.nil)
             · rw [if_pos (by kernel_rfl)]
               go_simp
               refine hK.out _ _ hco0 (fun _ => ?_)
               clear hK K
               try simp only [Act.put, sA, sB, sC]
               refine rq (k := 9) rfl (by kernel_rfl) (by kernel_rfl) (fun K hK => ?_)
               go_simp
               refine hK.out _ _ hco0a (fun _ => ?_)
               clear hK K
               try simp only [Act.put, sA, sB, sC]
               refine wpAnyH_ready (rs := [10]) (by kernel_rfl) (by simp) ?_
               refine AllReadyH.cons (o := _) rfl (fun K hK => ?_) AllReadyH.nil
               refine step_app_run rfl _ _ rfl rfl rfl rfl hrun ?_
               refine hK.out _ _ hf0.1 (fun _ => ?_)
               clear hK K
               try simp only [Act.put, sA, sB, sC]
               refine tq (i := 11) (v := ?vA11) rfl rfl (by kernel_rfl) (fun _ _ _ h => h) ?yA11 (by assumption) ?rA11
               case yA11 => intro w h; (try dsimp only at h); go_simp; try with_reducible rfl
               try simp only [sA, sB, sC]
               refine tq (i := 12) (v := ?vA12) rfl rfl (by kernel_rfl) (fun _ _ _ h => h) ?yA12 (by assumption) ?rA12
               case yA12 => intro w h; (try dsimp only at h); go_simp; try with_reducible rfl
               try simp only [sA, sB, sC]
               refine rq (k := 13) rfl (by kernel_rfl) (by kernel_rfl) (fun K hK => ?_)
               go_simp
               refine hK.out _ _ hf0.2 (fun _ => ?_)
               clear hK K
               try simp only [Act.put, sA, sB, sC]
               refine wpAnyH_done (by kernel_rfl) ?_ _
               have HFP := hide hfin
               clear hfin hrun hf0 hco0 hco0a hbag
               obtain ⟨W5, hW5⟩ : ∃ W, w4.setCell ⟨g, 6, none⟩ (.slice A9 (d.length + 1) c9) = W := ⟨_, rfl⟩
               rw [hW5] at HFP hf4
               obtain ⟨hf40, hf41⟩ := hf4
               have HNX := hide (GIP.glue HK2.out (HFP.out.trans fun T' f => f.pop_run hf40))
               rw [HM.out] at HNX
               go_wp2_with fail
               go_region
               go_wp2
               go_roundg r.length
               case measure => exact Nat.lt_of_lt_of_eq (Nat.lt_succ_self _) HQY.out.symm
               case rel => exact ⟨r, d ++ [t], rfl, HPO.out, HSP.out, (by first | exact HNX.out | exact HNX.out.drew | exact HNX.out.drew.drew | exact HNX.out.drew.drew.drew)⟩
             · rw [if_pos (by kernel_rfl)]
               go_simp
               refine hK.out _ _ hco0a (fun _ => ?_)
               clear hK K
               try simp only [Act.put, sA, sB, sC]
               refine rq (k := 4) rfl (by kernel_rfl) (by kernel_rfl) (fun K hK => ?_)
               go_simp
               refine hK.out _ _ hco0a (fun _ => ?_)
               clear hK K
               try simp only [Act.put, sA, sB, sC]
               refine wpAnyH_ready (rs := [10]) (by kernel_rfl) (by simp) ?_
               refine AllReadyH.cons (o := _) rfl (fun K hK => ?_) AllReadyH.nil
               refine step_app_run rfl _ _ rfl rfl rfl rfl hrun ?_
               refine hK.out _ _ hf0.1 (fun _ => ?_)
               clear hK K
               try simp only [Act.put, sA, sB, sC]
               refine tq (i := 11) (v := ?vB11) rfl rfl (by kernel_rfl) (fun _ _ _ h => h) ?yB11 (by assumption) ?rB11
               case yB11 => intro w h; (try dsimp only at h); go_simp; try with_reducible rfl
               try simp only [sA, sB, sC]
               refine tq (i := 12) (v := ?vB12) rfl rfl (by kernel_rfl) (fun _ _ _ h => h) ?yB12 (by assumption) ?rB12
               case yB12 => intro w h; (try dsimp only at h); go_simp; try with_reducible rfl
               try simp only [sA, sB, sC]
               refine rq (k := 13) rfl (by kernel_rfl) (by kernel_rfl) (fun K hK => ?_)
               go_simp
               refine hK.out _ _ hf0.2 (fun _ => ?_)
               clear hK K
               try simp only [Act.put, sA, sB, sC]
               refine wpAnyH_done (by kernel_rfl) ?_ _
               have HFP := hide hfin
               clear hfin hrun hf0 hco0 hco0a hbag
               obtain ⟨W5, hW5⟩ : ∃ W, w4.setCell ⟨g, 6, none⟩ (.slice A9 (d.length + 1) c9) = W := ⟨_, rfl⟩
               rw [hW5] at HFP hf4
               obtain ⟨hf40, hf41⟩ := hf4
               have HNX := hide (GIP.glue HK2.out (HFP.out.trans fun T' f => f.pop_run hf40))
               rw [HM.out] at HNX
               go_wp2_with fail
               go_region
               go_wp2
               go_roundg r.length
               case measure => exact Nat.lt_of_lt_of_eq (Nat.lt_succ_self _) HQY.out.symm
               case rel => exact ⟨r, d ++ [t], rfl, HPO.out, HSP.out, (by first | exact HNX.out | exact HNX.out.drew | exact HNX.out.drew.drew | exact HNX.out.drew.drew.drew)⟩
           | cons n ns =>
             obtain ⟨gs, o, rfl, hgs, hcn⟩ := hsn 0 n rfl
             rw [Nat.add_zero] at hcn
             have HSX := hide HSY.out.next
             have HPS := hide (pop_sum HPO.out)
             have HNX := hide (fun (o' c' : Nat) (ho : ns = [] ∨ o' = o + 1) (hc' : ns.length ≤ c') => GIP.glue HK2.out (f2.next_run (bw := bw) hc4 (by rw [HM.out]; exact hco1) ho hc'))
             simp only [List.length_cons] at hco1 hcn0
             have HNL := hide (show ns.length = 0 → ns = [] from List.eq_nil_of_length_eq_zero)
             obtain ⟨l, hl⟩ : ∃ l, ns.length = l := ⟨_, rfl⟩
             rw [hl] at hco1 hcn0 HNL
             rw [HM.out, hl] at HNX
             have hli0 : (0 : Int) < (l : Int) + 1 := by omega
             have HMX := hide (show mu ⟨(t, ns) :: r, s1.met, d⟩ < gkx from by
               have h1 := HPS.out
               have h2 := HM1.out
               unfold mu at h2 ⊢
               dsimp only
               omega)
             clear hm hqy hsy hsm hsl f2 k2 gr2 hsn hl
             by_cases hc1 : cn = 1
             · subst hc1
               obtain rfl : l = 0 := by omega
               have HN2 := hide (HNX.out o 0 (.inl (HNL.out rfl)) (Nat.le_refl _))
               clear HNX
               go_wp2_with fail
               go_region
               go_wp2_with fail
               go_region
               go_wp2_with fail
               go_roundg (mu ⟨(t, ns) :: r, s1.met, d⟩)
               case measure => exact HGK.out.symm ▸ HMX.out
               case rel => exact ⟨_, n, rfl, rfl, HSX.out.2, fun r c h => HGO.out r c (.more HE2.out HPO.out h), HSX.out.1, (by first | exact HN2.out | exact HN2.out.drew | exact HN2.out.drew.drew | exact HN2.out.drew.drew.drew)⟩
             · have hcc : (1 : Int) ≤ (cn : Int) := by omega
               have HN2 := hide (HNX.out (o + 1) (cn - 1) (.inr rfl) (by omega))
               clear HNX
               go_wp2_with fail
               go_region
               go_wp2_with fail
               go_region
               go_wp2_with fail
               go_roundg (mu ⟨(t, ns) :: r, s1.met, d⟩)
               case measure => exact HGK.out.symm ▸ HMX.out
               case rel => exact ⟨_, n, rfl, rfl, HSX.out.2, fun r c h => HGO.out r c (.more HE2.out HPO.out h), HSX.out.1, (by first | exact HN2.out | exact HN2.out.drew | exact HN2.out.drew.drew | exact HN2.out.drew.drew.drew)⟩
   | false =>
     go_wp2_with fail
     refine HMY.out.mono ?_
     rintro e w2 ⟨rfl, hb2⟩
     obtain ⟨mm, hmm⟩ : ∃ c, mayF P is x' s' = c := ⟨_, rfl⟩
     rw [hmm]
     by_cases hm0 : mm = 0
     case neg =>
       have HE := hide (show GoR P is x' s' s' mm from .err (by rw [ent_no HCB.out (by rw [hmm]; exact hm0), hmm]) hm0)
       have HG2 := hide (show GIP w0 C g b s' T w w2 from GIP.glue HK1.out (HF1.out.toP hb2))
       have HM0 := hide hm0
       obtain ⟨t1, t2⟩ := ne0 hm0
       clear hm0 hmm hb2
       go_wp2
       (try rw [Exit.noGoto_ret])
       go_ret
       exact ⟨s', mm, HGO.out _ _ HE.out, rfl, (fun h => absurd h HM0.out), HG2.out⟩
     subst hm0
     obtain ⟨hey, hl1, hl2⟩ := ent_yes (P := P) (is := is) HCB.out hmm
     have hnm : x' ∉ s'.met := fun h => by
       have := (Lib.containsS_iff _ _).2 h
       rw [HCB.out] at this; cases this
     have hen2 := enter_any w0 C P is Gd HG.out g b s' T1 x' w2 (HF1.out.step hb2) HGX.out hnm (by omega) (by omega)
     have HEN2 := hide hen2
     have HB2 := hide hb2
     obtain ⟨s1, hs1⟩ : ∃ s1 : Se, (⟨(x', (P x').needs) :: s'.way, s'.met ++ [x'], s'.done⟩ : Se) = s1 := ⟨_, rfl⟩
     rw [hs1] at HEN2 hey
     have HE2 := hide hey
     have HS1 := hide (show SeOk Gd s1 from hs1 ▸ HSO.out.ent hl1 hl2 (fun y hy => HG.out.mono _ y hy) (fun y hy => HG.out.next _ x' hl1 HGX.out y hy))
     have HM1 := hide (show mu s1 ≤ gk by
       have h1 := HG.out.len _ x' HSO.out.met HGX.out
       rw [HMU.out, ← hs1]
       unfold mu ndsum
       simp only [List.length_append, List.length_singleton, List.map_cons, List.sum_cons]
       omega)
     clear hen2 hey hl1 hl2 hnm hs1 hmm hb2
     go_wp2_with fail
     refine HEN2.out.mono ?_
     rintro e w3 ⟨rfl, hg3⟩
     have HG1 := hide (show GIP w0 C g b s1 T w w3 from GIP.glue HK1.out (by
       obtain ⟨T', f, k, gr⟩ := hg3
       exact ⟨T', f, (Kp.of_below HB2.out T1).trans (k.mono fun q hq => .inl hq), fun q hq => (gr q hq).imp_right (Nat.le_trans HB2.out.size)⟩))
     obtain ⟨gkx, hgkx⟩ : ∃ q, gk = q := ⟨_, rfl⟩
     rw [hgkx] at HM1
     have HGK := hide hgkx
     clear hg3 HEN2 HB2 HWT HMY HEN HF1 HK1 HCB hlk hc5 hgkx
     go_wp2_with fail
     go_loopg [5, 7] s1.way.length (fun q _ _ wz => ∃ (wy : List Opn) (d : List ByteArray), q = wy.length ∧ Hid (popF s1.way s1.done = popF wy d) ∧ Hid (SeOk Gd ⟨wy, s1.met, d⟩) ∧ GIP w0 C g b ⟨wy, s1.met, d⟩ T w wz)
     case atStart => exact ⟨s1.way, s1.done, rfl, rfl, HS1.out, HG1.out⟩
     case round =>
       obtain ⟨wy, d, hqy, HPO, HSY, hgy⟩ := hrel
       generalize wr = wz at *
       obtain ⟨T2, f2, k2, gr2⟩ := hgy
       have HF2 := hide f2
       have HK2 := hide (And.intro k2 gr2)
       cases wy with
       | nil =>
         obtain ⟨A4, c4, A6, c6, hc4, _⟩ := f2.cells
         simp only [List.length_nil] at hc4
         clear f2 k2 gr2 hqy
         have HR := hide (HGO.out _ _ (GoR.fin HE2.out HPO.out))
         have HGZ := hide (show GIP w0 C g b ⟨[], s1.met, d⟩ T w wz from ⟨T2, HF2.out, HK2.out.1, HK2.out.2⟩)
         go_wp2
         (try rw [Exit.noGoto_ret])
         go_ret
         exact ⟨_, 0, HR.out, rfl, fun _ => HSY.out, HGZ.out⟩
       | cons o r =>
         obtain ⟨t, ns⟩ := o
         obtain ⟨bw, c4, An, cn, hc4, hbg, hsn, hco0, hco1, hfr, hcw, hcn0⟩ := f2.top
         obtain ⟨A4', c4', A6, c6, _, hc6, _, hfz, _⟩ := f2.cells
         dsimp only at hc6
         have hsy := HSY.out.way
         have hsm := HSY.out.sum
         have hsl := HSY.out.met
         simp only [List.length_cons] at hsy hsm
         obtain ⟨m, hm⟩ : ∃ m, r.length = m := ⟨_, rfl⟩
         have HM := hide hm
         have HQY := hide hqy
         rw [hm] at hc4 hco0 hco1 hfr hsy hsm
         have hml : m ≤ 199 := by omega
         have hdl : d.length ≤ 1000 := by dsimp only at hsl; omega
         have hmi : (m : Int) ≤ 199 := by omega
         have hwr : IntKind.i64.wrap ((m : Int) + 1 - 1) = (m : Int) := by rw [show (m : Int) + 1 - 1 = (m : Int) by omega]; exact IntWalk.i64_in _ (by omega)
         rw [hm] at hcw
         have hcwi : (m : Int) ≤ (c4 : Int) := by omega
         have hwr2 : IntKind.i64.wrap (m : Int) = (m : Int) := IntWalk.i64_in _ (by omega)
         have hidx0 : (0 : Int) ≤ (m : Int) := by omega
         have hidx1 : (m : Int) < (m : Int) + 1 := by omega
         cases ns with
         | nil =>
           simp only [List.length_nil] at hco1
           have HSP := hide HSY.out.pop
           clear hm hqy hsy hsm hsl f2 k2 gr2 hsn hfr
           go_wp2_with fail
           go_region
           go_wp2_with fail
           obtain ⟨A9, c9, w4, hrun, hf6, hbag, hf4, hfin⟩ := HF2.out.fin_run (w2 := wz.drew.drew) (Below.refl _ _).drew.drew hc6 hc4 hdl t
           obtain ⟨hf60, hf61⟩ := hf6
           have hf0 := hbag _ _ hco0
           have hco0a : (wz.drew.drew.alloc (.cells #[.string t] 9)).cell? ⟨bw, m * 2, none⟩ = some (.string t) := ((Below.refl wz.heap.size wz).drew.drew.alloc (Nat.le_refl _) _ |>.cell (p := ⟨bw, m * 2, none⟩) (World.block_lt_of_cell? _ _ hco0)).trans hco0
           have hc6a : (wz.alloc (.cells #[.string t] 9)).cell? ⟨g, 6, none⟩ = some (.slice A6 d.length c6) := ((Below.refl wz.heap.size wz).alloc (Nat.le_refl _) _ |>.cell (p := ⟨g, 6, none⟩) (World.block_lt_of_cell? _ _ hc6)).trans hc6
           refine wp_region_held_drew (S := (fun w' => w'.cell? ⟨bw, m * 2, none⟩ = some (.string t))) (by kernel_rfl) hco0 (fun hHeld => ?_)
           refine tq (i := 0) (v := ?vZ0) rfl rfl (by kernel_rfl) (fun _ _ _ h => h) ?yZ0 (by assumption) ?rZ0
           case yZ0 => intro w h; (try dsimp only at h); go_simp; try with_reducible rfl
           try simp only [sA, sB, sC]
           refine tq (i := 1) (v := ?vZ1) rfl rfl (by kernel_rfl) (fun _ _ _ h => h) ?yZ1 (by assumption) ?rZ1
           case yZ1 => intro w h; (try dsimp only at h); go_simp; try with_reducible rfl
           try simp only [sA, sB, sC]
           refine tq (i := 2) (v := ?vZ2) rfl rfl (by kernel_rfl) (fun _ _ _ h => h) ?yZ2 (by assumption) ?rZ2
           case yZ2 => intro w h; (try dsimp only at h); go_simp; try with_reducible rfl
           try simp only [sA, sB, sC]
           refine tq (i := 3) (v := ?vZ3) rfl rfl (by kernel_rfl) (fun _ _ _ h => h) ?yZ3 (by assumption) ?rZ3
           case yZ3 => intro w h; (try dsimp only at h); go_simp; try with_reducible rfl
           try simp only [sA, sB, sC]
           refine tq (i := 5) (v := ?vZ5) rfl rfl (by kernel_rfl) (fun _ _ _ h => h) ?yZ5 (by assumption) ?rZ5
           case yZ5 => intro w h; (try dsimp only at h); go_simp; try with_reducible rfl
           try simp only [sA, sB, sC]
           refine tq (i := 6) (v := ?vZ6) rfl rfl (by kernel_rfl) (fun _ _ _ h => h) ?yZ6 (by assumption) ?rZ6
           case yZ6 => intro w h; (try dsimp only at h); go_simp; try with_reducible rfl
           try simp only [sA, sB, sC]
           refine tq (i := 7) (v := ?vZ7) rfl rfl (by kernel_rfl) (fun _ _ _ h => h) ?yZ7 (by assumption) ?rZ7
           case yZ7 => intro w h; (try dsimp only at h); go_simp; try with_reducible rfl
           try simp only [sA, sB, sC]
           refine tq (i := 8) (v := ?vZ8) rfl rfl (by kernel_rfl) (fun _ _ _ h => h) ?yZ8 (by assumption) ?rZ8
           case yZ8 => intro w h; (try dsimp only at h); go_simp; try with_reducible rfl
           try simp only [sA, sB, sC]
           refine wpAnyH_ready (rs := [4, 9]) (by kernel_rfl) (by simp) ?_
           refine AllReadyH.cons (o := _) rfl (fun K hK => ?_) (AllReadyH.cons (o := _) rfl (fun K hK => ?_) AllReadyH.nil)
           · rw [if_pos (by kernel_rfl)]
             go_simp
             refine hK.out _ _ hco0 (fun _ => ?_)
             clear hK K
             try simp only [Act.put, sA, sB, sC]
             refine rq (k := 9) rfl (by kernel_rfl) (by kernel_rfl) (fun K hK => ?_)
             go_simp
             refine hK.out _ _ hco0a (fun _ => ?_)
             clear hK K
             try simp only [Act.put, sA, sB, sC]
             refine wpAnyH_ready (rs := [10]) (by kernel_rfl) (by simp) ?_
             refine AllReadyH.cons (o := _) rfl (fun K hK => ?_) AllReadyH.nil
             refine step_app_run rfl _ _ rfl rfl rfl rfl hrun ?_
             refine hK.out _ _ hf0.1 (fun _ => ?_)
             clear hK K
             try simp only [Act.put, sA, sB, sC]
             refine tq (i := 11) (v := ?vZA11) rfl rfl (by kernel_rfl) (fun _ _ _ h => h) ?yZA11 (by assumption) ?rZA11
             case yZA11 => intro w h; (try dsimp only at h); go_simp; try with_reducible rfl
             try simp only [sA, sB, sC]
             refine tq (i := 12) (v := ?vZA12) rfl rfl (by kernel_rfl) (fun _ _ _ h => h) ?yZA12 (by assumption) ?rZA12
             case yZA12 => intro w h; (try dsimp only at h); go_simp; try with_reducible rfl
             try simp only [sA, sB, sC]
             refine rq (k := 13) rfl (by kernel_rfl) (by kernel_rfl) (fun K hK => ?_)
             go_simp
             refine hK.out _ _ hf0.2 (fun _ => ?_)
             clear hK K
             try simp only [Act.put, sA, sB, sC]
             refine wpAnyH_done (by kernel_rfl) ?_ _
             have HFP := hide hfin
             clear hfin hrun hf0 hco0 hco0a hbag
             obtain ⟨W5, hW5⟩ : ∃ W, w4.setCell ⟨g, 6, none⟩ (.slice A9 (d.length + 1) c9) = W := ⟨_, rfl⟩
             rw [hW5] at HFP hf4
             obtain ⟨hf40, hf41⟩ := hf4
             have HNX := hide (GIP.glue HK2.out (HFP.out.trans fun T' f => f.pop_run hf40))
             rw [HM.out] at HNX
             go_wp2_with fail
             go_region
             go_wp2
             go_roundg r.length
             case measure => exact Nat.lt_of_lt_of_eq (Nat.lt_succ_self _) HQY.out.symm
             case rel => exact ⟨r, d ++ [t], rfl, HPO.out, HSP.out, (by first | exact HNX.out | exact HNX.out.drew | exact HNX.out.drew.drew | exact HNX.out.drew.drew.drew)⟩
           · rw [if_pos (by kernel_rfl)]
             go_simp
             refine hK.out _ _ hco0a (fun _ => ?_)
             clear hK K
             try simp only [Act.put, sA, sB, sC]
             refine rq (k := 4) rfl (by kernel_rfl) (by kernel_rfl) (fun K hK => ?_)
             go_simp
             refine hK.out _ _ hco0a (fun _ => ?_)
             clear hK K
             try simp only [Act.put, sA, sB, sC]
             refine wpAnyH_ready (rs := [10]) (by kernel_rfl) (by simp) ?_
             refine AllReadyH.cons (o := _) rfl (fun K hK => ?_) AllReadyH.nil
             refine step_app_run rfl _ _ rfl rfl rfl rfl hrun ?_
             refine hK.out _ _ hf0.1 (fun _ => ?_)
             clear hK K
             try simp only [Act.put, sA, sB, sC]
             refine tq (i := 11) (v := ?vZB11) rfl rfl (by kernel_rfl) (fun _ _ _ h => h) ?yZB11 (by assumption) ?rZB11
             case yZB11 => intro w h; (try dsimp only at h); go_simp; try with_reducible rfl
             try simp only [sA, sB, sC]
             refine tq (i := 12) (v := ?vZB12) rfl rfl (by kernel_rfl) (fun _ _ _ h => h) ?yZB12 (by assumption) ?rZB12
             case yZB12 => intro w h; (try dsimp only at h); go_simp; try with_reducible rfl
             try simp only [sA, sB, sC]
             refine rq (k := 13) rfl (by kernel_rfl) (by kernel_rfl) (fun K hK => ?_)
             go_simp
             refine hK.out _ _ hf0.2 (fun _ => ?_)
             clear hK K
             try simp only [Act.put, sA, sB, sC]
             refine wpAnyH_done (by kernel_rfl) ?_ _
             have HFP := hide hfin
             clear hfin hrun hf0 hco0 hco0a hbag
             obtain ⟨W5, hW5⟩ : ∃ W, w4.setCell ⟨g, 6, none⟩ (.slice A9 (d.length + 1) c9) = W := ⟨_, rfl⟩
             rw [hW5] at HFP hf4
             obtain ⟨hf40, hf41⟩ := hf4
             have HNX := hide (GIP.glue HK2.out (HFP.out.trans fun T' f => f.pop_run hf40))
             rw [HM.out] at HNX
             go_wp2_with fail
             go_region
             go_wp2
             go_roundg r.length
             case measure => exact Nat.lt_of_lt_of_eq (Nat.lt_succ_self _) HQY.out.symm
             case rel => exact ⟨r, d ++ [t], rfl, HPO.out, HSP.out, (by first | exact HNX.out | exact HNX.out.drew | exact HNX.out.drew.drew | exact HNX.out.drew.drew.drew)⟩
         | cons n ns =>
           obtain ⟨gs, o, rfl, hgs, hcn⟩ := hsn 0 n rfl
           rw [Nat.add_zero] at hcn
           have HSX := hide HSY.out.next
           have HPS := hide (pop_sum HPO.out)
           have HNX := hide (fun (o' c' : Nat) (ho : ns = [] ∨ o' = o + 1) (hc' : ns.length ≤ c') => GIP.glue HK2.out (f2.next_run (bw := bw) hc4 (by rw [HM.out]; exact hco1) ho hc'))
           simp only [List.length_cons] at hco1 hcn0
           have HNL := hide (show ns.length = 0 → ns = [] from List.eq_nil_of_length_eq_zero)
           obtain ⟨l, hl⟩ : ∃ l, ns.length = l := ⟨_, rfl⟩
           rw [hl] at hco1 hcn0 HNL
           rw [HM.out, hl] at HNX
           have hli0 : (0 : Int) < (l : Int) + 1 := by omega
           have HMX := hide (show mu ⟨(t, ns) :: r, s1.met, d⟩ < gkx from by
             have h1 := HPS.out
             have h2 := HM1.out
             unfold mu at h2 ⊢
             dsimp only
             omega)
           clear hm hqy hsy hsm hsl f2 k2 gr2 hsn hl
           by_cases hc1 : cn = 1
           · subst hc1
             obtain rfl : l = 0 := by omega
             have HN2 := hide (HNX.out o 0 (.inl (HNL.out rfl)) (Nat.le_refl _))
             clear HNX
             go_wp2_with fail
             go_region
             go_wp2_with fail
             go_region
             go_wp2_with fail
             go_roundg (mu ⟨(t, ns) :: r, s1.met, d⟩)
             case measure => exact HGK.out.symm ▸ HMX.out
             case rel => exact ⟨_, n, rfl, rfl, HSX.out.2, fun r c h => HGO.out r c (.more HE2.out HPO.out h), HSX.out.1, (by first | exact HN2.out | exact HN2.out.drew | exact HN2.out.drew.drew | exact HN2.out.drew.drew.drew)⟩
           · have hcc : (1 : Int) ≤ (cn : Int) := by omega
             have HN2 := hide (HNX.out (o + 1) (cn - 1) (.inr rfl) (by omega))
             clear HNX
             go_wp2_with fail
             go_region
             go_wp2_with fail
             go_region
             go_wp2_with fail
             go_roundg (mu ⟨(t, ns) :: r, s1.met, d⟩)
             case measure => exact HGK.out.symm ▸ HMX.out
             case rel => exact ⟨_, n, rfl, rfl, HSX.out.2, fun r c h => HGO.out r c (.more HE2.out HPO.out h), HSX.out.1, (by first | exact HN2.out | exact HN2.out.drew | exact HN2.out.drew.drew | exact HN2.out.drew.drew.drew)⟩
end
section
open Go.RowKit Go.Deep Go.Maps Ln Pth Vf
attribute [local go_sem] bt_eq mkMapB
def OrP (P : ByteArray → Pn) (is : ByteArray → Bool) (L : List ByteArray) (w : World) (e : Ending) (w' : World) : Prop := ∃ (r : Se) (c : Nat), OrR P is L se0 r c ∧ Below w.heap.size w w' ∧
 ∃ (A : Option Addr) (k : Nat), e = .returned (.tuple #[.slice A (if c = 0 then r.done.length else 0) k, .int .i64 c]) ∧ (c = 0 → SR w' A r.done)
theorem GI.start (w : World) (C : Gc) (o : Obj) : GI w C (w.heap.size + 1 + 1) (w.heap.size + 1) se0 (fun k => k = w.heap.size + 1 ∨ k = w.heap.size + 1 + 1) (((w.alloc o).alloc (.map #[] 0)).alloc (.cells (gcells C (w.heap.size + 1) (.slice none 0 0) (.slice none 0 0)) 78)) := by
 have h1 := heapNew ((w.alloc o).alloc (.map #[] 0)) (.cells (gcells C (w.heap.size + 1) (.slice none 0 0) (.slice none 0 0)) 78)
 have h2 := MSet.made (w.alloc o)
 simp only [World.size_alloc] at h1 h2
 refine ⟨(((Below.refl _ _).alloc (Nat.le_refl _) _).alloc (by simp) _).alloc (by simp; omega) _, .inr rfl, .inl rfl, by omega, ?_, h2.of (Below.heap_alloc _ _ _ (by simp)), List.nodup_nil, .slice none 0 0, .slice none 0 0, [], h1, OwnG.nil _ _, OwnS.nil _ _, fun k e => by simp [Value.ownBlock] at e, fun k e => by simp [Value.ownBlock] at e, rfl, fun o ho => by cases ho⟩
 rintro k (rfl | rfl)
 · exact ⟨by omega, by simp⟩
 · exact ⟨by omega, by simp⟩
set_option linter.unusedSimpArgs false in
theorem order_any (v0 v1 : Value) (gf : Nat) (cwd : ByteArray) (P : ByteArray → Pn) (is : ByteArray → Bool) (Gd : Nat → ByteArray → Prop) (A : Option Addr) (c : Nat) (L : List ByteArray) (w : World) (hG : GH w ⟨v0, v1, gf, cwd⟩ P is Gd) (hA : SR w A L) (hl : L.length ≤ 1000000) (hgd : ∀ x ∈ L, ∀ m, Gd m x) :
   Calls Tryz.prog 19 #[.agg #[v0, v1], .pointer (some ⟨gf, 0, none⟩), .string cwd, .slice A L.length c] w (OrP P is L w) := by
 have HG := hide hG
 have HA := hide hA
 have HGD := hide hgd
 have HST := hide (GI.start w ⟨v0, v1, gf, cwd⟩ (.cells #[v0, v1] 25))
 obtain ⟨n, hn⟩ : ∃ n, L.length = n := ⟨_, rfl⟩
 rw [hn] at hl ⊢
 have HN := hide hn
 have hni : (n : Int) ≤ 1000000 := by omega
 clear hG hA hgd hn
 go_enter Tryz.func19, Tryz.ntmps19
 go_wp2_with fail
 go_loopg [8, 9, 12, 13, 22] n (fun q _ _ _ _ v22 wr => ∃ (k : Nat) (s' : Se), q = n - k ∧ v22 = .int .i64 k ∧ k ≤ n ∧ Hid (∀ r c, OrR P is (L.drop k) s' r c → OrR P is L se0 r c) ∧ Hid (SeOk Gd s') ∧ ∃ T, GI w ⟨v0, v1, gf, cwd⟩ (w.heap.size + 1 + 1) (w.heap.size + 1) s' T wr)
 case atStart => exact ⟨0, se0, rfl, rfl, by omega, fun _ _ h => h, SeOk.start Gd, _, HST.out⟩
 case round =>
   obtain ⟨k, s', hq, rfl, hk, HOR, HSO, T, hgi⟩ := hrel
   have HGI := hide hgi
   have HAR := hide (HA.out.below hgi.below)
   clear hgi
   by_cases hlt : k < n
   · obtain ⟨x, hx⟩ : ∃ x, L[k]? = some x := ⟨L[k]'(by have := HN.out; omega), gE _⟩
     obtain ⟨gs, o, rfl, hgs, hc⟩ := HAR.out k x hx
     have HX := hide hx
     have b1 : (k : Int) < (n : Int) := by omega
     have HGO := hide (goal_any w ⟨v0, v1, gf, cwd⟩ P is Gd HG.out (w.heap.size + 1 + 1) (w.heap.size + 1) s' T x wr HGI.out (HGD.out x (List.mem_of_getElem? hx) _) HSO.out)
     have HDR := hide (show L.drop k = x :: L.drop (k + 1) by
       obtain ⟨h1, h2⟩ := List.getElem?_eq_some_iff.1 hx
       rw [List.drop_eq_getElem_cons h1, h2])
     clear hx hgs
     unfold GoP at HGO
     go_wp2_with fail
     refine HGO.out.mono ?_
     rintro e w2 ⟨r, c, hr, rfl, hok, hp⟩
     have HR := hide hr
     have HP := hide hp
     by_cases hc0 : c = 0
     · subst hc0
       have HOK2 := hide (hok rfl)
       clear hr hok hp
       go_wp2
       go_roundg (n - (k + 1))
       case measure => omega
       case rel =>
         obtain ⟨T', f, _, _⟩ := HP.out
         exact ⟨k + 1, r, rfl, by go_num, by omega, fun r' c' h => HOR.out r' c' (by rw [HDR.out]; exact .cons HR.out h), HOK2.out, T', f⟩
     · have HC0 := hide hc0
       obtain ⟨t1, t2⟩ := ne0 hc0
       clear hr hok hp hc0
       go_wp2
       (try rw [Exit.noGoto_ret])
       go_ret2
       refine ⟨r, c, HOR.out r c (by rw [HDR.out]; exact .err HR.out HC0.out), HP.out.below, none, 0, ?_, fun h => absurd h HC0.out⟩
       rw [if_neg HC0.out]
       rfl
   · obtain rfl : n = k := by omega
     obtain ⟨A4, c4, A6, c6, hc4, hc6, _, _, hsr⟩ := HGI.out.cells
     have HSR := hide hsr
     have HE := hide (HOR.out s' 0 (by rw [List.drop_of_length_le (by have := HN.out; omega)]; exact .nil))
     clear hsr
     go_wp2
     (try rw [Exit.noGoto_ret])
     go_ret2
     exact ⟨s', 0, HE.out, HGI.out.below, A6, c6, rfl, fun _ => HSR.out⟩
end
section
open Go.RowKit Go.Deep Go.Maps Ln Pth Vf
attribute [local go_sem] bt_eq
def goF (P : ByteArray → Pn) (is : ByteArray → Bool) : Nat → ByteArray → Se → Option (Se × Nat)
 | 0, _, _ => none
 | f + 1, x, s => if (entF P is x s).1 = 0 then
     match popF (entF P is x s).2.way (entF P is x s).2.done with
     | (_, d, none) => some (⟨[], (entF P is x s).2.met, d⟩, 0)
     | (w, d, some n) => goF P is f n ⟨w, (entF P is x s).2.met, d⟩
   else some ((entF P is x s).2, (entF P is x s).1)
theorem goF_eq {P : ByteArray → Pn} {is : ByteArray → Bool} {x : ByteArray} {s r : Se} {e : Nat} (h : GoR P is x s r e) : ∀ f q, goF P is f x s = some q → q = (r, e) := by
 induction h with
 | err h1 h2 =>
   intro f q hq
   cases f with
   | zero => cases hq
   | succ f =>
     rw [goF, h1] at hq
     rw [if_neg h2] at hq
     exact (Option.some.inj hq).symm
 | fin h1 h2 =>
   intro f q hq
   cases f with
   | zero => cases hq
   | succ f =>
     rw [goF, h1] at hq
     rw [if_pos rfl] at hq
     dsimp only at hq
     rw [h2] at hq
     exact (Option.some.inj hq).symm
 | more h1 h2 h3 ih =>
   intro f q hq
   cases f with
   | zero => cases hq
   | succ f =>
     rw [goF, h1] at hq
     rw [if_pos rfl] at hq
     dsimp only at hq
     rw [h2] at hq
     exact ih f q hq
theorem orR_one {P : ByteArray → Pn} {is : ByteArray → Bool} {x : ByteArray} {s r : Se} {c : Nat} (h : OrR P is [x] s r c) : GoR P is x s r c := by
 cases h with
 | err h1 h2 => exact h1
 | cons h1 h2 =>
   cases h2 with
   | nil => exact h1
theorem gh_of (w : World) (mac : Value) (A : Option Addr) (c : Nat) (M : List Rl) (gf : Nat) (S : St) (cwd : T) (Gd : Nat → ByteArray → Prop) (hM : RLS w A M) (hv : Hs (VS gf S) w) (hm : MX w) (hc : cwd.length ≤ 90000) (hl : M.length ≤ 1000)
   (h1 : ∀ r ∈ M, ∀ x ∈ r.tg.2.2, x.size ≤ 10000) (h2 : ∀ r ∈ M, plainR r.tg.2.2 = false → ∀ x ∈ r.nd.2.2, x.size ≤ 10000) (h3 : ∀ s ∈ specialR M suffixes, s.size ≤ 10000) (h4 : (knownsF M).length ≤ 100000) (h5 : ∀ x, (specialR M x).length ≤ 100000)
   (hg : ∀ m x, m ≤ 1000 → Gd m x → x.size ≤ 6000000) (hn : ∀ m x, m < 1000 → Gd m x → ∀ y ∈ (planF S cwd M x.data.toList).needs, Gd (m + 1) y) (hnl : ∀ m x, m ≤ 1000 → Gd m x → (planF S cwd M x.data.toList).needs.length ≤ 900000) (hmo : ∀ m x, Gd m x → Gd (m + 1) x) :
   GH w ⟨mac, .slice A M.length c, gf, bs cwd⟩ (fun x => planF S cwd M x.data.toList) (fun x => decide (kindT S cwd x.data.toList ≠ 0)) Gd := by
 refine ⟨fun m W x hm1 hx hb => ?_, fun m W x hm1 hx hb => ?_, hn, hnl, fun m x h1 hx => by have := hg m x h1 hx; omega, hmo⟩
 · have hs := hg m x hm1 hx
   have := plan_any { mac := mac, A := A, c := c, L := M, gf := gf, S := S, cwd := cwd, target := x.data.toList } W ⟨hM.below hb, hv.below (VS.fr _ _) hb, hm.below hb, hc, by dsimp only; rw [data_len]; exact hs, hl⟩ ⟨h1, h2, h3, h4, h5 _⟩ (h5 _)
   dsimp only at this
   rw [bs_of] at this
   exact this
 · have hs := hg m x hm1 hx
   have := is_any gf S cwd x.data.toList W (hv.below (VS.fr _ _) hb) (hm.below hb) (by omega) (by rw [data_len]; omega)
   rw [bs_of] at this
   exact this
theorem num22_any (n : Int) (w : World) : Calls Tryz.prog 20 #[.int .i64 n] w fun e w' => e = .returned (.int .i64 n) ∧ w = w' := by
 go_enter Tryz.func20, Tryz.ntmps20
 go_wp2
 go_ret
 exact ⟨rfl, rfl⟩
theorem sr_two (W : World) (s t : ByteArray) : SR (W.alloc (.cells #[.string s, .string t] 9)) (some ⟨W.heap.size, 0, none⟩) [s, t] := by
 have h := heapNew W (.cells #[.string s, .string t] 9)
 intro k x hk
 match k, hk with
 | 0, hk =>
   obtain rfl := Option.some.inj hk
   exact ⟨_, _, rfl, by simp, cellOf h rfl⟩
 | 1, hk =>
   obtain rfl := Option.some.inj hk
   exact ⟨_, _, rfl, by simp, cellOf h rfl⟩
 | k + 2, hk => simp at hk
def alM22 (w : World) : List Rl := [⟨(some ⟨w.heap.size, 0, none⟩, 1, [⟨#[97]⟩]), (some ⟨w.heap.size + 1, 0, none⟩, 1, [⟨#[98]⟩]), (none, 0, [])⟩]
def alW22 (w : World) : World := (((w.alloc (.cells #[.string ⟨#[97]⟩] 9)).alloc (.cells #[.string ⟨#[98]⟩] 9)).alloc (.cells #[.slice (some ⟨w.heap.size, 0, none⟩) 1 1, .slice (some ⟨w.heap.size + 1, 0, none⟩) 1 1, .slice none 0 0] 63)).alloc (.cells #[.slice none 0 0, .slice (some ⟨w.heap.size + 1 + 1, 0, none⟩) 1 1] 25)
theorem alW22_ok (w : World) : Below w.heap.size w (alW22 w) ∧ (alW22 w).heap[w.heap.size + 1 + 1 + 1]? = some (.cells #[.slice none 0 0, .slice (some ⟨w.heap.size + 1 + 1, 0, none⟩) 1 1] 25) ∧
   RLS (alW22 w) (some ⟨w.heap.size + 1 + 1, 0, none⟩) (alM22 w) := by
 have h0 : (alW22 w).heap[w.heap.size]? = some (.cells #[.string ⟨#[97]⟩] 9) := by
   unfold alW22
   rw [Below.heap_alloc _ _ _ (by simp <;> omega), Below.heap_alloc _ _ _ (by simp <;> omega), Below.heap_alloc _ _ _ (by simp)]
   exact heapNew _ _
 have h1 : (alW22 w).heap[w.heap.size + 1]? = some (.cells #[.string ⟨#[98]⟩] 9) := by
   unfold alW22
   rw [Below.heap_alloc _ _ _ (by simp <;> omega), Below.heap_alloc _ _ _ (by simp)]
   have := heapNew (w.alloc (.cells #[.string ⟨#[97]⟩] 9)) (.cells #[.string ⟨#[98]⟩] 9)
   simpa using this
 have h3 : (alW22 w).heap[w.heap.size + 1 + 1]? = some (.cells #[.slice (some ⟨w.heap.size, 0, none⟩) 1 1, .slice (some ⟨w.heap.size + 1, 0, none⟩) 1 1, .slice none 0 0] 63) := by
   unfold alW22
   rw [Below.heap_alloc _ _ _ (by simp)]
   have := heapNew ((w.alloc (.cells #[.string ⟨#[97]⟩] 9)).alloc (.cells #[.string ⟨#[98]⟩] 9)) (.cells #[.slice (some ⟨w.heap.size, 0, none⟩) 1 1, .slice (some ⟨w.heap.size + 1, 0, none⟩) 1 1, .slice none 0 0] 63)
   simpa using this
 have h4 : (alW22 w).heap[w.heap.size + 1 + 1 + 1]? = some (.cells #[.slice none 0 0, .slice (some ⟨w.heap.size + 1 + 1, 0, none⟩) 1 1] 25) := by
   have := heapNew (((w.alloc (.cells #[.string ⟨#[97]⟩] 9)).alloc (.cells #[.string ⟨#[98]⟩] 9)).alloc (.cells #[.slice (some ⟨w.heap.size, 0, none⟩) 1 1, .slice (some ⟨w.heap.size + 1, 0, none⟩) 1 1, .slice none 0 0] 63)) (.cells #[.slice none 0 0, .slice (some ⟨w.heap.size + 1 + 1, 0, none⟩) 1 1] 25)
   unfold alW22
   simpa using this
 refine ⟨((((Below.refl _ _).alloc (Nat.le_refl _) _).alloc (by simp) _).alloc (by simp <;> omega) _).alloc (by simp <;> omega) _, h4, rg_rule (r := ⟨(some ⟨w.heap.size, 0, none⟩, 1, [⟨#[97]⟩]), (some ⟨w.heap.size + 1, 0, none⟩, 1, [⟨#[98]⟩]), (none, 0, [])⟩) h3, ?_⟩
 intro r hr
 unfold alM22 at hr
 obtain rfl := List.mem_singleton.1 hr
 exact ⟨sr_one h0, sr_one h1, SR.nil _ _, by simp, by simp, by simp⟩
def alS22 : St := (writeS (newS 3 10) [47, 98] [] false).1
theorem al22_a (w : World) : planF alS22 [47] (alM22 w) [97] = ⟨[⟨#[98]⟩], [], [], true⟩ := by kernel_rfl
theorem al22_b (w : World) : planF alS22 [47] (alM22 w) [98] = ⟨[], [], [], false⟩ := by kernel_rfl
theorem al22_go (w : World) : goF (fun x => planF alS22 [47] (alM22 w) x.data.toList) (fun x => decide (kindT alS22 [47] x.data.toList ≠ 0)) 3 ⟨#[97]⟩ se0 = some (⟨[], [⟨#[97]⟩, ⟨#[98]⟩], [⟨#[98]⟩, ⟨#[97]⟩]⟩, 0) := by kernel_rfl
theorem al22_sz (w : World) : (∀ r ∈ alM22 w, ∀ x ∈ r.tg.2.2, x.size ≤ 10000) ∧ (∀ r ∈ alM22 w, ∀ x ∈ r.nd.2.2, x.size ≤ 10000) ∧ (knownsF (alM22 w)).length ≤ 100000 ∧ (∀ x, (specialR (alM22 w) x).length ≤ 100000) ∧ ∀ s ∈ specialR (alM22 w) suffixes, s.size ≤ 10000 := by
 refine ⟨fun r hr => ?_, fun r hr => ?_, of_decide_eq_true (by kernel_rfl), fun x => ?_, fun s hs => ?_⟩
 · unfold alM22 at hr
   obtain rfl := List.mem_singleton.1 hr
   exact fun x hx => by simp at hx; subst hx; decide
 · unfold alM22 at hr
   obtain rfl := List.mem_singleton.1 hr
   exact fun x hx => by simp at hx; subst hx; decide
 · unfold specialR alM22
   rw [List.flatMap_cons, List.flatMap_nil]
   split <;> simp
 · have : specialR (alM22 w) suffixes = [] := by kernel_rfl
   rw [this] at hs
   cases hs
set_option linter.unusedSimpArgs false in
theorem alive22_any (w : World) (hm : MX w) : Calls Tryz.prog 18 #[] w fun e w' => e = .returned (.bool true) ∧ Below w.heap.size w w' := by
 have HM := hide hm
 clear hm
 obtain ⟨hb, hmk, hrl⟩ := alW22_ok w
 have HB := hide hb
 have HMK := hide hmk
 have HRL := hide hrl
 have hb0 : w.heap.size ≤ (alW22 w).heap.size := hb.size
 have HNW := hide (vnew_any 3 10 (alW22 w) (by omega) (by omega) (by omega) (by omega))
 have hml : w.heap.size + 1 + 1 + 1 < (alW22 w).heap.size := (Array.getElem?_eq_some_iff.1 hmk).1
 clear hb hmk hrl
 go_enter Tryz.func18, Tryz.ntmps18
 go_wp2_with fail
 refine HNW.out.mono ?_
 rintro e w2 ⟨rfl, hb2, hv2, hs2⟩
 have HTA := hide (TA.new HB.out 3 10 hb2 hv2 hs2)
 have hmk2 := (hb2.block _ hml).trans HMK.out
 have HB2 := hide hb2
 clear hb2 hv2 hs2
 obtain ⟨b, hbb⟩ : ∃ b, (alW22 w).heap.size = b := ⟨_, rfl⟩
 rw [hbb] at HTA hb0 hml ⊢
 go_wp2_with fail
 refine (TA.write HTA.out hb0 HM.out (newS_wf 3 10) (by decide) (by decide) [47, 98] (by decide) [] (by decide) false none 0 (RG.nil _ _)).mono ?_
 rintro e w3 ⟨rfl, ht3, hk3⟩
 have HT3 := hide (show TA b w alS22 w3 from ht3)
 have hbz := HTA.out.below.size
 have hmk3 := (hk3.block (w.heap.size + 1 + 1 + 1) (Array.getElem?_eq_some_iff.1 hmk2).1 (fun h => by unfold T0 at h; omega)).trans hmk2
 have hx0 : w3.cell? ⟨w.heap.size + 1 + 1 + 1, 0, none⟩ = some (.slice none 0 0) := cellOf hmk3 (j := 0) rfl
 have hx1 : w3.cell? ⟨w.heap.size + 1 + 1 + 1, 1, none⟩ = some (.slice (some ⟨w.heap.size + 1 + 1, 0, none⟩) 1 1) := cellOf hmk3 (j := 1) rfl
 have hrl3 : RLS w3 (some ⟨w.heap.size + 1 + 1, 0, none⟩) (alM22 w) := HRL.out.below (show Below (alW22 w).heap.size (alW22 w) w3 from hk3.below HB2.out (Nat.le_refl _) (fun k h => by unfold T0 at h; omega))
 have HRL3 := hide hrl3
 clear ht3 hk3 hmk2 hmk3 hrl3 HRL HNW
 have hba := (Below.refl w3.heap.size w3).alloc (Nat.le_refl _) (.cells #[.string ⟨#[97]⟩] 9)
 have hsz := al22_sz w
 have hgh := gh_of (w3.alloc (.cells #[.string ⟨#[97]⟩] 9)) (.slice none 0 0) (some ⟨w.heap.size + 1 + 1, 0, none⟩) 1 (alM22 w) (b + 1) alS22 [47] (fun _ x => x = ⟨#[97]⟩ ∨ x = ⟨#[98]⟩) (HRL3.out.below hba) (HT3.out.hs.below (VS.fr _ _) hba) ((HM.out.below HT3.out.below).below hba) (by simp) (by simp [alM22]) hsz.1 (fun r hr _ => hsz.2.1 r hr) hsz.2.2.2.2 hsz.2.2.1 hsz.2.2.2.1
   (fun _ x _ hx => by rcases hx with rfl | rfl <;> decide) (fun _ x _ hx y hy => by
     rcases hx with rfl | rfl
     · rw [show (⟨#[97]⟩ : ByteArray).data.toList = [97] from rfl, al22_a] at hy
       exact .inr (List.mem_singleton.1 hy)
     · rw [show (⟨#[98]⟩ : ByteArray).data.toList = [98] from rfl, al22_b] at hy
       cases hy) (fun _ x _ hx => by
     rcases hx with rfl | rfl
     · rw [show (⟨#[97]⟩ : ByteArray).data.toList = [97] from rfl, al22_a]; simp
     · rw [show (⟨#[98]⟩ : ByteArray).data.toList = [98] from rfl, al22_b]; simp) (fun _ _ h => h)
 have HOR := hide (order_any _ _ _ _ _ _ _ (some ⟨w3.heap.size, 0, none⟩) 1 [⟨#[97]⟩] _ hgh (sr_new w3 ⟨#[97]⟩) (by simp) (fun x hx _ => .inl (List.mem_singleton.1 hx)))
 have HBA := hide (below_up HT3.out.below hba HT3.out.below.size)
 have HGO := hide (al22_go w)
 clear hba hsz hgh
 go_wp2_with fail
 refine HOR.out.mono ?_
 rintro e w4 ⟨r, c, hor, hb4, A5, k5, rfl, hs5⟩
 have hq := goF_eq (orR_one hor) _ _ HGO.out
 simp only [Prod.mk.injEq] at hq
 obtain ⟨hr, hc⟩ := hq
 subst hr
 subst hc
 have HS5 := hide (hs5 rfl)
 have HB4 := hide (below_up HBA.out hb4 HBA.out.size)
 clear hor hb4 hs5
 simp only [List.length_cons, List.length_nil, Nat.zero_add, if_true]
 have hbq := (Below.refl w4.heap.size w4).alloc (Nat.le_refl _) (.cells #[.string ⟨#[98]⟩, .string ⟨#[97]⟩] 9)
 have hsm := same_any A5 (some ⟨w4.heap.size, 0, none⟩) k5 2 [⟨#[98]⟩, ⟨#[97]⟩] [⟨#[98]⟩, ⟨#[97]⟩] _ (HS5.out.below hbq) (sr_two w4 _ _) (by simp)
 rw [decide_eq_true rfl] at hsm
 have HSM := hide hsm
 have HBQ := hide (below_up HB4.out hbq HB4.out.size)
 clear hbq hsm
 go_wp2_with fail
 refine (num22_any _ _).mono ?_
 rintro e w' ⟨rfl, rfl⟩
 go_wp2_with fail
 refine HSM.out.mono ?_
 rintro e w5 ⟨rfl, hdr⟩
 have HBZ := hide (show Below w.heap.size w w5 by
   obtain ⟨nd, rfl⟩ := hdr
   exact below_drewN HBQ.out nd)
 clear hdr
 go_wp2
 go_ret
 exact ⟨rfl, HBZ.out⟩
end
section
open Go.RowKit Go.Deep Go.Maps Ln Pth Vf
section
variable {n back : Nat} {L : List Rl}
end
end
section
open Ln Pth Vf
structure Wk where
 seen : List ByteArray
 order : List ByteArray
 wait : List ByteArray
 e : Nat
def wk0 : Wk := ⟨[], [], [], 0⟩
def leave (t : ByteArray) (s : Wk) : Wk := { s with wait := s.wait.dropLast, order := s.order ++ [t] }
def enterW (t : ByteArray) (s : Wk) : Wk := { s with seen := s.seen ++ [t], wait := s.wait ++ [t] }
section
variable (P : ByteArray → Pn) (is : ByteArray → Bool) (stop : Bool)
def meetF : Nat → ByteArray → Wk → Wk
 | 0, _, s => s
 | n + 1, t, s =>
   if s.e ≠ 0 then s else
   if Lib.containsS s.seen t = true then (if Lib.containsS s.wait t = true ∧ stop = true then { s with e := 18 } else s) else
   if 1000 ≤ s.seen.length ∨ (stop = true ∧ 200 ≤ s.wait.length) then (if stop = true then { s with e := 3 } else s) else
   if stop = true ∧ (P t).rule = false ∧ is t = false then { s with seen := s.seen ++ [t], e := 19 } else
   leave t ((P t).needs.foldl (fun s x => meetF n x s) (enterW t s))
end
section
variable {P : ByteArray → Pn} {is : ByteArray → Bool} {stop : Bool}
theorem fold_inv {α β : Type} {f : α → β → α} {Q : α → Prop} (h : ∀ a b, Q a → Q (f a b)) : ∀ (l : List β) (a : α), Q a → Q (l.foldl f a)
 | [], a, h0 => h0
 | b :: l, a, h0 => fold_inv h l (f a b) (h a b h0)
theorem meetF_e {n : Nat} {t : ByteArray} {s : Wk} (h : s.e ≠ 0) : meetF P is stop n t s = s := by
 cases n with
 | zero => rfl
 | succ n => rw [meetF, if_pos h]
theorem fold_e {n : Nat} {s : Wk} (h : s.e ≠ 0) : ∀ l : List ByteArray, l.foldl (fun s x => meetF P is stop n x s) s = s
 | [] => rfl
 | x :: l => by rw [List.foldl_cons, meetF_e h]; exact fold_e h l
theorem meetF_wait : ∀ (n : Nat) (t : ByteArray) (s : Wk), (meetF P is stop n t s).wait = s.wait
 | 0, _, _ => rfl
 | n + 1, t, s => by
   rw [meetF]
   split
   · rfl
   · split
     · split <;> rfl
     · split
       · split <;> rfl
       · split
         · rfl
         · show (List.foldl (fun s x => meetF P is stop n x s) (enterW t s) (P t).needs).wait.dropLast = _
           have := fold_inv (f := fun s x => meetF P is stop n x s) (Q := fun z => z.wait = s.wait ++ [t]) (fun a b h => by rw [meetF_wait n b a, h]) (P t).needs (enterW t s) rfl
           rw [this]
           simp
theorem meetF_seen : ∀ (n : Nat) (t : ByteArray) (s : Wk), s.seen.length ≤ 1000 → s.seen.length ≤ (meetF P is stop n t s).seen.length ∧ (meetF P is stop n t s).seen.length ≤ 1000
 | 0, _, _, h => ⟨Nat.le_refl _, h⟩
 | n + 1, t, s, h => by
   rw [meetF]
   split
   · exact ⟨Nat.le_refl _, h⟩
   · split
     · split <;> exact ⟨Nat.le_refl _, h⟩
     · split
       · split <;> exact ⟨Nat.le_refl _, h⟩
       · rename_i h3
         split
         · show _ ≤ (s.seen ++ [t]).length ∧ (s.seen ++ [t]).length ≤ _
           rw [List.length_append, List.length_singleton]
           omega
         · show _ ≤ (List.foldl (fun s x => meetF P is stop n x s) (enterW t s) (P t).needs).seen.length ∧ (List.foldl (fun s x => meetF P is stop n x s) (enterW t s) (P t).needs).seen.length ≤ _
           have h0 : (enterW t s).seen.length = s.seen.length + 1 := by show (s.seen ++ [t]).length = _; rw [List.length_append, List.length_singleton]
           have := fold_inv (f := fun s x => meetF P is stop n x s) (Q := fun z => s.seen.length + 1 ≤ z.seen.length ∧ z.seen.length ≤ 1000) (fun a b h => by
             have := meetF_seen n b a h.2
             omega) (P t).needs (enterW t s) (by omega)
           omega
theorem fold_congr {α β : Type} {f g : α → β → α} {Q : α → Prop} (h : ∀ a b, Q a → f a b = g a b) (h2 : ∀ a b, Q a → Q (f a b)) : ∀ (l : List β) (a : α), Q a → l.foldl f a = l.foldl g a
 | [], a, h0 => rfl
 | b :: l, a, h0 => by
   rw [List.foldl_cons, List.foldl_cons, ← h a b h0]
   exact fold_congr h h2 l (f a b) (h2 a b h0)
theorem meetF_fuel : ∀ (n m : Nat) (t : ByteArray) (s : Wk), s.seen.length ≤ 1000 → 1000 < n + s.seen.length → 1000 < m + s.seen.length → meetF P is stop n t s = meetF P is stop m t s
 | 0, m, t, s, h, h1, h2 => by omega
 | n + 1, 0, t, s, h, h1, h2 => by omega
 | n + 1, m + 1, t, s, h, h1, h2 => by
   rw [meetF, meetF]
   split
   · rfl
   · split
     · rfl
     · split
       · rfl
       · rename_i h3
         split
         · rfl
         · congr 1
           have h0 : (enterW t s).seen.length = s.seen.length + 1 := by show (s.seen ++ [t]).length = _; rw [List.length_append, List.length_singleton]
           refine fold_congr (Q := fun z => s.seen.length + 1 ≤ z.seen.length ∧ z.seen.length ≤ 1000) (fun a b h => meetF_fuel n m b a h.2 (by omega) (by omega)) (fun a b h => ?_) _ _ (by omega)
           have := meetF_seen (P := P) (is := is) (stop := stop) n b a h.2
           omega
end
section
variable (P : ByteArray → Pn) (is : ByteArray → Bool) (stop : Bool)
def meetW (t : ByteArray) (s : Wk) : Wk := meetF P is stop 1001 t s
def unwind : List Opn → Wk → Wk
 | [], s => s
 | (t, ns) :: r, s => unwind r (leave t (ns.foldl (fun s x => meetW P is stop x s) s))
end
section
variable {P : ByteArray → Pn} {is : ByteArray → Bool} {stop : Bool}
theorem meetW_new {t : ByteArray} {s : Wk} (h : s.seen.length < 1000) (h0 : s.e = 0) (h1 : Lib.containsS s.seen t = false) (h2 : stop = true → s.wait.length < 200) (h3 : stop = true → (P t).rule = true ∨ is t = true) : meetW P is stop t s = leave t ((P t).needs.foldl (fun s x => meetW P is stop x s) (enterW t s)) := by
 unfold meetW
 rw [meetF, if_neg (by simp [h0]), if_neg (by simp [h1]), if_neg (by rintro (q | ⟨q1, q2⟩); exact absurd q (by omega); exact absurd q2 (by have := h2 q1; omega)), if_neg (by
   rintro ⟨q, q1, q2⟩
   rcases h3 q with e | e
   · rw [e] at q1; cases q1
   · rw [e] at q2; cases q2)]
 refine congrArg (leave t) ?_
 have hz : (enterW t s).seen.length = s.seen.length + 1 := by show (s.seen ++ [t]).length = _; rw [List.length_append, List.length_singleton]
 refine fold_congr (Q := fun z => s.seen.length + 1 ≤ z.seen.length ∧ z.seen.length ≤ 1000) (fun a b h => meetF_fuel _ _ b a h.2 (by omega) (by omega)) (fun a b h => ?_) _ _ (by omega)
 have := meetF_seen (P := P) (is := is) (stop := stop) 1000 b a h.2
 omega
theorem foldW_e {s : Wk} (h : s.e ≠ 0) (l : List ByteArray) : l.foldl (fun s x => meetW P is stop x s) s = s := fold_e h l
theorem unwind_e : ∀ (w : List Opn) {s : Wk}, s.e ≠ 0 → (unwind P is stop w s).e = s.e
 | [], s, h => rfl
 | (t, ns) :: r, s, h => by
   rw [unwind, foldW_e h]
   exact unwind_e r (s := leave t s) h
structure SeR (s : Se) (S : Wk) : Prop where
 seen : S.seen = s.met
 order : S.order = s.done
 wait : S.wait = (s.way.map Prod.fst).reverse
 e : S.e = 0
theorem unwind_pop : ∀ (w : List Opn) (S : Wk) {m d : List ByteArray} {w' d'} {x : Option ByteArray}, SeR ⟨w, m, d⟩ S → popF w d = (w', d', x) → ∃ S', SeR ⟨w', m, d'⟩ S' ∧ (∀ n, x = some n → unwind P is stop w S = unwind P is stop w' (meetW P is stop n S')) ∧ (x = none → unwind P is stop w S = S')
 | [], S, m, d, w', d', x, h, hp => by
   simp only [popF, Prod.mk.injEq] at hp
   obtain ⟨rfl, rfl, rfl⟩ := hp
   exact ⟨S, h, fun n e => by (cases e), fun _ => rfl⟩
 | (t, []) :: r, S, m, d, w', d', x, h, hp => by
   have h2 : SeR ⟨r, m, d ++ [t]⟩ (leave t S) := by
     refine ⟨h.seen, ?_, ?_, h.e⟩
     · show S.order ++ [t] = _
       rw [h.order]
     · show S.wait.dropLast = _
       rw [h.wait]
       simp
   obtain ⟨S', a, b, c⟩ := unwind_pop r (leave t S) h2 hp
   exact ⟨S', a, b, c⟩
 | (t, n :: ns) :: r, S, m, d, w', d', x, h, hp => by
   simp only [popF, Prod.mk.injEq] at hp
   obtain ⟨rfl, rfl, rfl⟩ := hp
   refine ⟨S, ⟨h.seen, h.order, h.wait, h.e⟩, fun k e => ?_, fun e => by cases e⟩
   injection e with e
   subst e
   rw [unwind, unwind, List.foldl_cons]
theorem wayW_any {w : List Opn} {x : ByteArray} : Lib.containsS ((w.map Prod.fst).reverse) x = w.any fun o => decide (o.1 = x) := by
 rw [Bool.eq_iff_iff, Lib.containsS_iff, List.mem_reverse, List.mem_map, List.any_eq_true]
 constructor
 · rintro ⟨o, ho, e⟩; exact ⟨o, ho, by simpa using e⟩
 · rintro ⟨o, ho, e⟩; exact ⟨o, ho, by simpa using e⟩
theorem ent_meet {x : ByteArray} {s s' : Se} {e : Nat} {S : Wk} (h : SeR s S) (hm : s.met.length ≤ 1000) (he : entF P is x s = (e, s')) :
   (e ≠ 0 → (meetW P is true x S).e = e) ∧ (e = 0 → s'.met.length ≤ 1000 ∧ ∃ S', SeR s' S' ∧ unwind P is true s.way (meetW P is true x S) = unwind P is true s'.way S') := by
 unfold entF at he
 by_cases c1 : Lib.containsS s.met x = true
 · rw [if_pos c1] at he
   have hM : meetW P is true x S = if Lib.containsS S.wait x = true ∧ true = true then { S with e := 18 } else S := by
     unfold meetW
     rw [meetF, if_neg (by simp [h.e]), if_pos (by rw [h.seen]; exact c1)]
   rw [h.wait, wayW_any] at hM
   by_cases c2 : (s.way.any fun o => decide (o.1 = x)) = true
   · rw [if_pos c2] at he
     rw [if_pos ⟨c2, rfl⟩] at hM
     injection he with h1 h2
     subst h1
     refine ⟨fun _ => by rw [hM], fun q => absurd q (by decide)⟩
   · rw [if_neg c2] at he
     rw [if_neg (fun q => c2 q.1)] at hM
     injection he with h1 h2
     subst h1 h2
     exact ⟨fun q => absurd rfl q, fun _ => ⟨hm, S, h, by rw [hM]⟩⟩
 rw [if_neg c1] at he
 have c1' : Lib.containsS S.seen x = false := by rw [h.seen]; simpa using c1
 have hwl : S.wait.length = s.way.length := by rw [h.wait]; simp
 by_cases c2 : 1000 ≤ s.met.length ∨ 200 ≤ s.way.length
 · rw [if_pos c2] at he
   injection he with h1 h2
   subst h1
   have hM : meetW P is true x S = { S with e := 3 } := by
     unfold meetW
     rw [meetF, if_neg (by simp [h.e]), if_neg (by rw [c1']; simp), if_pos (by
       rw [h.seen, hwl]
       rcases c2 with q | q
       · exact .inl q
       · exact .inr ⟨rfl, q⟩), if_pos rfl]
   exact ⟨fun _ => by rw [hM], fun q => absurd q (by decide)⟩
 rw [if_neg c2] at he
 by_cases c3 : (P x).rule = false ∧ is x = false
 · rw [if_pos c3] at he
   injection he with h1 h2
   subst h1
   have hM : meetW P is true x S = { S with seen := S.seen ++ [x], e := 19 } := by
     unfold meetW
     rw [meetF, if_neg (by simp [h.e]), if_neg (by rw [c1']; simp), if_neg (by
       rw [h.seen, hwl]
       rintro (q | q)
       · exact c2 (.inl q)
       · exact c2 (.inr q.2)), if_pos ⟨rfl, c3⟩]
   exact ⟨fun _ => by rw [hM], fun q => absurd q (by decide)⟩
 rw [if_neg c3] at he
 injection he with h1 h2
 subst h1 h2
 refine ⟨fun q => absurd rfl q, fun _ => ⟨by show (s.met ++ [x]).length ≤ 1000; rw [List.length_append, List.length_singleton]; omega, enterW x S, ⟨?_, h.order, ?_, h.e⟩, ?_⟩⟩
 · show S.seen ++ [x] = _
   rw [h.seen]
 · show S.wait ++ [x] = _
   rw [h.wait]
   simp
 · rw [meetW_new (by rw [h.seen]; omega) h.e c1' (fun _ => by omega) (fun _ => by
     by_cases q : (P x).rule = true
     · exact .inl q
     · by_cases q2 : is x = true
       · exact .inr q2
       · exact absurd ⟨by simpa using q, by simpa using q2⟩ c3)]
   rfl
theorem go_meet {x : ByteArray} {s r : Se} {c : Nat} (h : GoR P is x s r c) : ∀ {S : Wk}, SeR s S → s.met.length ≤ 1000 → (unwind P is true s.way (meetW P is true x S)).e = c ∧ (c = 0 → SeR r (unwind P is true s.way (meetW P is true x S)) ∧ r.met.length ≤ 1000 ∧ r.way = []) := by
 induction h with
 | err h1 h2 =>
   intro S hS hm
   have := (ent_meet hS hm h1).1 h2
   exact ⟨by rw [unwind_e _ (by rw [this]; exact h2), this], fun q => absurd q h2⟩
 | fin h1 h2 =>
   intro S hS hm
   obtain ⟨h3, S', h4, h5⟩ := (ent_meet hS hm h1).2 rfl
   obtain ⟨S2, h6, _, h7⟩ := unwind_pop (P := P) (is := is) (stop := true) _ S' h4 h2
   rw [h5, h7 rfl]
   exact ⟨h6.e, fun _ => ⟨h6, h3, rfl⟩⟩
 | more h1 h2 h3 ih =>
   intro S hS hm
   obtain ⟨h4, S', h5, h6⟩ := (ent_meet hS hm h1).2 rfl
   obtain ⟨S2, h7, h8, _⟩ := unwind_pop (P := P) (is := is) (stop := true) _ S' h5 h2
   rw [h6, h8 _ rfl]
   exact ih h7 h4
theorem or_meet {l : List ByteArray} {s r : Se} {c : Nat} (h : OrR P is l s r c) : ∀ {S : Wk}, SeR s S → s.met.length ≤ 1000 → s.way = [] → (l.foldl (fun s x => meetW P is true x s) S).e = c ∧ (c = 0 → SeR r (l.foldl (fun s x => meetW P is true x s) S) ∧ r.met.length ≤ 1000) := by
 induction h with
 | nil => intro S hS hm hw; exact ⟨hS.e, fun _ => ⟨hS, hm⟩⟩
 | err h1 h2 =>
   intro S hS hm hw
   have := (go_meet h1 hS hm).1
   rw [hw] at this
   rw [List.foldl_cons, foldW_e (by rw [show meetW P is true _ S = unwind P is true [] (meetW P is true _ S) from rfl, this]; exact h2)]
   exact ⟨this, fun q => absurd q h2⟩
 | cons h1 h2 ih =>
   intro S hS hm hw
   obtain ⟨_, h3⟩ := go_meet h1 hS hm
   obtain ⟨h4, h5, h6⟩ := h3 rfl
   rw [hw] at h4
   rw [List.foldl_cons]
   exact ih h4 h5 h6
theorem SeR.start : SeR se0 wk0 := ⟨rfl, rfl, rfl, rfl⟩
end
end
section
open Ln Pth Vf
section
variable (P : ByteArray → Pn)
def seenF : Nat → ByteArray → List ByteArray → List ByteArray
 | 0, _, l => l
 | n + 1, t, l => if Lib.containsS l t = true then l else if 1000 ≤ l.length then l else (P t).needs.foldl (fun l x => seenF n x l) (l ++ [t])
def seenW (t : ByteArray) (l : List ByteArray) : List ByteArray := seenF P 1001 t l
def seenA (goals l : List ByteArray) : List ByteArray := goals.foldl (fun l x => seenW P x l) l
end
section
variable {P : ByteArray → Pn} {is : ByteArray → Bool}
theorem seenF_len : ∀ (n : Nat) (t : ByteArray) (l : List ByteArray), l.length ≤ 1000 → l.length ≤ (seenF P n t l).length ∧ (seenF P n t l).length ≤ 1000
 | 0, _, _, h => ⟨Nat.le_refl _, h⟩
 | n + 1, t, l, h => by
   rw [seenF]
   split
   · exact ⟨Nat.le_refl _, h⟩
   · split
     · exact ⟨Nat.le_refl _, h⟩
     · have := fold_inv (f := fun l x => seenF P n x l) (Q := fun z => l.length + 1 ≤ z.length ∧ z.length ≤ 1000) (fun a b h => by
         have := seenF_len n b a h.2
         omega) (P t).needs (l ++ [t]) (by rw [List.length_append, List.length_singleton]; omega)
       omega
theorem seenF_fuel : ∀ (n m : Nat) (t : ByteArray) (l : List ByteArray), l.length ≤ 1000 → 1000 < n + l.length → 1000 < m + l.length → seenF P n t l = seenF P m t l
 | 0, m, t, s, h, h1, h2 => by omega
 | n + 1, 0, t, s, h, h1, h2 => by omega
 | n + 1, m + 1, t, l, h, h1, h2 => by
   rw [seenF, seenF]
   split
   · rfl
   · split
     · rfl
     · refine fold_congr (Q := fun z => l.length + 1 ≤ z.length ∧ z.length ≤ 1000) (fun a b h => seenF_fuel n m b a h.2 (by omega) (by omega)) (fun a b h => ?_) _ _ (by rw [List.length_append, List.length_singleton]; omega)
       have := seenF_len (P := P) n b a h.2
       omega
theorem seenW_old {t : ByteArray} {l : List ByteArray} (h : Lib.containsS l t = true) : seenW P t l = l := by unfold seenW; rw [seenF, if_pos h]
theorem seenW_full {t : ByteArray} {l : List ByteArray} (h : 1000 ≤ l.length) : seenW P t l = l := by
 unfold seenW
 rw [seenF]
 split
 · rfl
 · first | rfl | rw [if_pos h]
theorem seenW_new {t : ByteArray} {l : List ByteArray} (h : Lib.containsS l t = false) (h2 : l.length < 1000) : seenW P t l = seenA P (P t).needs (l ++ [t]) := by
 unfold seenW seenA
 rw [seenF, if_neg (by simp [h]), if_neg (by omega)]
 refine fold_congr (Q := fun z => l.length + 1 ≤ z.length ∧ z.length ≤ 1000) (fun a b h => seenF_fuel _ _ b a h.2 (by omega) (by omega)) (fun a b h => ?_) _ _ (by rw [List.length_append, List.length_singleton]; omega)
 have := seenF_len (P := P) 1000 b a h.2
 omega
theorem seenA_cons (t : ByteArray) (r l : List ByteArray) : seenA P (t :: r) l = seenA P r (seenW P t l) := rfl
theorem seenA_app (a b l : List ByteArray) : seenA P (a ++ b) l = seenA P b (seenA P a l) := by unfold seenA; rw [List.foldl_append]
theorem seenA_full {l : List ByteArray} (h : 1000 ≤ l.length) : ∀ g : List ByteArray, seenA P g l = l
 | [] => rfl
 | t :: r => by rw [seenA_cons, seenW_full h]; exact seenA_full h r
theorem seenA_old {t : ByteArray} {r l : List ByteArray} (h : Lib.containsS l t = true) : seenA P (t :: r) l = seenA P r l := by rw [seenA_cons, seenW_old h]
theorem seenA_new {t : ByteArray} {r l : List ByteArray} (h : Lib.containsS l t = false) (h2 : l.length < 1000) : seenA P (t :: r) l = seenA P ((P t).needs ++ r) (l ++ [t]) := by rw [seenA_cons, seenW_new h h2, seenA_app]
theorem meetF_false : ∀ (n : Nat) (t : ByteArray) (s : Wk), s.e = 0 → (meetF P is false n t s).e = 0 ∧ (meetF P is false n t s).seen = seenF P n t s.seen
 | 0, _, _, h => ⟨h, rfl⟩
 | n + 1, t, s, h => by
   rw [meetF, seenF, if_neg (by simp [h])]
   split
   · rw [if_neg (by simp)]; exact ⟨h, rfl⟩
   · by_cases c : 1000 ≤ s.seen.length
     · rw [if_pos (.inl c), if_neg (by simp), if_pos c]; exact ⟨h, rfl⟩
     · rw [if_neg (by rintro (q | q); exact c q; exact absurd q.1 (by simp)), if_neg (by simp), if_neg c]
       have := fold_inv2 n (P t).needs (enterW t s) h
       exact this
where
 fold_inv2 (n : Nat) : ∀ (l : List ByteArray) (z : Wk), z.e = 0 → (l.foldl (fun s x => meetF P is false n x s) z).e = 0 ∧ (l.foldl (fun s x => meetF P is false n x s) z).seen = l.foldl (fun l x => seenF P n x l) z.seen
   | [], z, h => ⟨h, rfl⟩
   | x :: l, z, h => by
     rw [List.foldl_cons, List.foldl_cons, ← (meetF_false n x z h).2]
     exact fold_inv2 n l _ (meetF_false n x z h).1
theorem fold_e0 {n : Nat} {stop : Bool} : ∀ (l : List ByteArray) (z : Wk), (l.foldl (fun s x => meetF P is stop n x s) z).e = 0 → z.e = 0 := by
 intro l z h
 by_cases q : z.e = 0
 · exact q
 · rw [fold_e q] at h; exact h
theorem meetF_true : ∀ (n : Nat) (t : ByteArray) (s : Wk), (meetF P is true n t s).e = 0 → (meetF P is true n t s).seen = seenF P n t s.seen
 | 0, _, _, h => rfl
 | n + 1, t, s, h => by
   rw [meetF] at h ⊢
   rw [seenF]
   by_cases c0 : s.e ≠ 0
   · rw [if_pos c0] at h; exact absurd h c0
   rw [if_neg c0] at h ⊢
   split
   · split <;> rfl
   · rename_i c1
     rw [if_neg c1] at h
     by_cases c : 1000 ≤ s.seen.length ∨ (true = true ∧ 200 ≤ s.wait.length)
     · rw [if_pos c, if_pos rfl] at h; cases h
     · rw [if_neg c] at h ⊢
       rw [if_neg (fun q => c (.inl q))]
       by_cases c3 : true = true ∧ (P t).rule = false ∧ is t = false
       · rw [if_pos c3] at h; cases h
       · rw [if_neg c3] at h ⊢
         exact fold_inv3 n (P t).needs (enterW t s) h
where
 fold_inv3 (n : Nat) : ∀ (l : List ByteArray) (z : Wk), (l.foldl (fun s x => meetF P is true n x s) z).e = 0 → (l.foldl (fun s x => meetF P is true n x s) z).seen = l.foldl (fun l x => seenF P n x l) z.seen
   | [], z, h => rfl
   | x :: l, z, h => by
     rw [List.foldl_cons] at h
     rw [List.foldl_cons, List.foldl_cons, ← meetF_true n x z (fold_e0 l _ h)]
     exact fold_inv3 n l _ h
theorem goals_false : ∀ (l : List ByteArray) (s : Wk), s.e = 0 → (l.foldl (fun s x => meetW P is false x s) s).seen = seenA P l s.seen
 | [], s, h => rfl
 | x :: l, s, h => by
   rw [List.foldl_cons, seenA_cons, goals_false l (meetW P is false x s) (meetF_false 1001 x s h).1]
   exact congrArg (seenA P l) (meetF_false (is := is) 1001 x s h).2
theorem goals_true : ∀ (l : List ByteArray) (s : Wk), (l.foldl (fun s x => meetW P is true x s) s).e = 0 → (l.foldl (fun s x => meetW P is true x s) s).seen = seenA P l s.seen
 | [], s, h => rfl
 | x :: l, s, h => by
   rw [List.foldl_cons] at h
   rw [List.foldl_cons, seenA_cons, goals_true l _ h]
   exact congrArg (seenA P l) (meetF_true 1001 x s (fold_e0 l _ h))
theorem seenF_ext : ∀ (n : Nat) (t : ByteArray) (l : List ByteArray), l <+: seenF P n t l
 | 0, _, l => List.prefix_rfl
 | n + 1, t, l => by
   rw [seenF]
   split
   · exact List.prefix_rfl
   · split
     · exact List.prefix_rfl
     · exact (List.prefix_append l [t]).trans (fold_inv (f := fun l x => seenF P n x l) (Q := fun z => l ++ [t] <+: z) (fun a b h => h.trans (seenF_ext n b a)) _ _ List.prefix_rfl)
theorem seenA_ext (g l : List ByteArray) : l <+: seenA P g l := fold_inv (f := fun l x => seenW P x l) (Q := fun z => l <+: z) (fun a b h => h.trans (seenF_ext _ b a)) _ _ List.prefix_rfl
theorem seenA_len (g : List ByteArray) : (seenA P g []).length ≤ 1000 := fold_inv (f := fun l x => seenW P x l) (Q := fun z => z.length ≤ 1000) (fun a b h => (seenF_len _ b a h).2) _ _ (by simp)
structure OrdOk (P : ByteArray → Pn) (s : Wk) : Prop where
 so : ∀ x ∈ s.order, x ∈ s.seen
 sw : ∀ x ∈ s.wait, x ∈ s.seen
 ow : ∀ x ∈ s.seen, x ∈ s.order ∨ x ∈ s.wait
 dj : ∀ x ∈ s.order, x ∉ s.wait
 nd : s.order.Nodup
 nw : s.wait.Nodup
 cl : ∀ (i : Nat) t, s.order[i]? = some t → ∀ n ∈ (P t).needs, ∃ j, j < i ∧ s.order[j]? = some n
theorem OrdOk.start : OrdOk P wk0 := ⟨by simp [wk0], by simp [wk0], by simp [wk0], by simp [wk0], by simp [wk0], by simp [wk0], by simp [wk0]⟩
theorem OrdOk.enter {s : Wk} {t : ByteArray} (h : OrdOk P s) (ht : t ∉ s.seen) : OrdOk P (enterW t s) := by
 refine ⟨fun x hx => List.mem_append.2 (.inl (h.so x hx)), fun x hx => ?_, fun x hx => ?_, fun x hx hw => ?_, h.nd, ?_, h.cl⟩
 · rcases List.mem_append.1 hx with q | q
   · exact List.mem_append.2 (.inl (h.sw x q))
   · exact List.mem_append.2 (.inr q)
 · rcases List.mem_append.1 hx with q | q
   · rcases h.ow x q with q | q
     · exact .inl q
     · exact .inr (List.mem_append.2 (.inl q))
   · exact .inr (List.mem_append.2 (.inr q))
 · rcases List.mem_append.1 hw with q | q
   · exact h.dj x hx q
   · rw [List.mem_singleton.1 q] at hx
     exact ht (h.so t hx)
 · show (s.wait ++ [t]).Nodup
   rw [List.nodup_append]
   refine ⟨h.nw, by simp, fun a ha b hb => ?_⟩
   rw [List.mem_singleton.1 hb]
   rintro rfl
   exact ht (h.sw _ ha)
theorem OrdOk.leave {s : Wk} {t : ByteArray} {w : List ByteArray} (h : OrdOk P s) (hw : s.wait = w ++ [t]) (hn : ∀ n ∈ (P t).needs, n ∈ s.order) : OrdOk P (leave t s) := by
 have hd : (Go.Proofs.YtaajofojbhdgaaaGreatDoor.leave t s).wait = w := by show s.wait.dropLast = w; rw [hw]; simp
 have htw : t ∈ s.wait := by rw [hw]; simp
 have hnw : w.Nodup ∧ t ∉ w := by
   have := h.nw
   rw [hw, List.nodup_append] at this
   exact ⟨this.1, fun q => this.2.2 t q t (by simp) rfl⟩
 have hto : t ∉ s.order := fun q => h.dj t q htw
 refine ⟨fun x hx => ?_, fun x hx => ?_, fun x hx => ?_, fun x hx hw2 => ?_, ?_, ?_, fun i u hu n hnn => ?_⟩
 · rcases List.mem_append.1 hx with q | q
   · exact h.so x q
   · rw [List.mem_singleton.1 q]; exact h.sw t htw
 · rw [hd] at hx
   exact h.sw x (by rw [hw]; simp [hx])
 · rcases h.ow x hx with q | q
   · exact .inl (List.mem_append.2 (.inl q))
   · rw [hw] at q
     rcases List.mem_append.1 q with q | q
     · exact .inr (by rw [hd]; exact q)
     · exact .inl (List.mem_append.2 (.inr q))
 · rw [hd] at hw2
   rcases List.mem_append.1 hx with q | q
   · exact h.dj x q (by rw [hw]; simp [hw2])
   · rw [List.mem_singleton.1 q] at hw2; exact hnw.2 hw2
 · show (s.order ++ [t]).Nodup
   rw [List.nodup_append]
   refine ⟨h.nd, by simp, fun a ha b hb => ?_⟩
   rw [List.mem_singleton.1 hb]
   rintro rfl
   exact hto ha
 · rw [hd]; exact hnw.1
 · have hu' : (s.order ++ [t])[i]? = some u := hu
   show ∃ j, j < i ∧ (s.order ++ [t])[j]? = some n
   by_cases hi : i < s.order.length
   · rw [List.getElem?_append_left hi] at hu'
     obtain ⟨j, hj, e⟩ := h.cl i u hu' n hnn
     exact ⟨j, hj, by rw [List.getElem?_append_left (by omega)]; exact e⟩
   · have hil : i = s.order.length := by
       have := (List.getElem?_eq_some_iff.1 hu').1
       rw [List.length_append, List.length_singleton] at this
       omega
     subst hil
     rw [List.getElem?_append_right (Nat.le_refl _), Nat.sub_self] at hu'
     injection hu' with hu'
     subst hu'
     obtain ⟨j, hj, e⟩ := List.getElem_of_mem (hn n hnn)
     exact ⟨j, hj, by rw [List.getElem?_append_left hj, List.getElem?_eq_getElem hj, e]⟩
theorem meetF_ord : ∀ (n : Nat) (t : ByteArray) (s : Wk), 1000 < n + s.seen.length → s.seen.length ≤ 1000 → OrdOk P s → (meetF P is true n t s).e = 0 → OrdOk P (meetF P is true n t s) ∧ t ∈ (meetF P is true n t s).order ∧ ∀ x ∈ s.order, x ∈ (meetF P is true n t s).order
 | 0, t, s, h, h1, _, _ => by omega
 | n + 1, t, s, h, h1, ho, he => by
   rw [meetF] at he ⊢
   by_cases c0 : s.e ≠ 0
   · rw [if_pos c0] at he; exact absurd he c0
   rw [if_neg c0] at he ⊢
   by_cases c1 : Lib.containsS s.seen t = true
   · rw [if_pos c1] at he ⊢
     by_cases c2 : Lib.containsS s.wait t = true ∧ true = true
     · rw [if_pos c2] at he; cases he
     · rw [if_neg c2] at he ⊢
       refine ⟨ho, ?_, fun x hx => hx⟩
       rcases ho.ow t ((Lib.containsS_iff _ _).1 c1) with q | q
       · exact q
       · exact absurd ⟨(Lib.containsS_iff _ _).2 q, rfl⟩ c2
   rw [if_neg c1] at he ⊢
   by_cases c : 1000 ≤ s.seen.length ∨ (true = true ∧ 200 ≤ s.wait.length)
   · rw [if_pos c, if_pos rfl] at he; cases he
   rw [if_neg c] at he ⊢
   by_cases c3 : true = true ∧ (P t).rule = false ∧ is t = false
   · rw [if_pos c3] at he; cases he
   rw [if_neg c3] at he ⊢
   have hsl : s.seen.length < 1000 := by
     by_cases q : 1000 ≤ s.seen.length
     · exact absurd (.inl q) c
     · omega
   have hz : (enterW t s).seen.length = s.seen.length + 1 := by show (s.seen ++ [t]).length = _; rw [List.length_append, List.length_singleton]
   have hnt : t ∉ s.seen := fun q => c1 ((Lib.containsS_iff _ _).2 q)
   obtain ⟨h2, h3, h4, h5⟩ := fold_ord n (P t).needs (enterW t s) (by omega) (by omega) (ho.enter hnt) he
   exact ⟨h2.leave (w := s.wait) (by rw [h5]; rfl) h3, List.mem_append.2 (.inr (by simp)), fun x hx => List.mem_append.2 (.inl (h4 x hx))⟩
where
 fold_ord (n : Nat) : ∀ (l : List ByteArray) (z : Wk), 1000 < n + z.seen.length → z.seen.length ≤ 1000 → OrdOk P z → (l.foldl (fun s x => meetF P is true n x s) z).e = 0 → OrdOk P (l.foldl (fun s x => meetF P is true n x s) z) ∧ (∀ x ∈ l, x ∈ (l.foldl (fun s x => meetF P is true n x s) z).order) ∧ (∀ x ∈ z.order, x ∈ (l.foldl (fun s x => meetF P is true n x s) z).order) ∧ (l.foldl (fun s x => meetF P is true n x s) z).wait = z.wait
   | [], z, h1, h2, ho, he => ⟨ho, by simp, fun x hx => hx, rfl⟩
   | x :: l, z, h1, h2, ho, he => by
     rw [List.foldl_cons] at he ⊢
     have he1 := fold_e0 l _ he
     obtain ⟨a, b, c⟩ := meetF_ord n x z h1 h2 ho he1
     have hs := meetF_seen (P := P) (is := is) (stop := true) n x z h2
     obtain ⟨a2, b2, c2, d2⟩ := fold_ord n l _ (by omega) hs.2 a he
     refine ⟨a2, fun y hy => ?_, fun y hy => c2 y (c y hy), by rw [d2, meetF_wait]⟩
     rcases List.mem_cons.1 hy with rfl | hy
     · exact c2 y b
     · exact b2 y hy
theorem goals_ord {l : List ByteArray} (he : (l.foldl (fun s x => meetW P is true x s) wk0).e = 0) : OrdOk P (l.foldl (fun s x => meetW P is true x s) wk0) ∧ (∀ x ∈ l, x ∈ (l.foldl (fun s x => meetW P is true x s) wk0).order) ∧ (l.foldl (fun s x => meetW P is true x s) wk0).wait = [] := by
 have := @meetF_ord.fold_ord
 obtain ⟨a, b, _, d⟩ := meetF_ord.fold_ord (P := P) (is := is) 0 ByteArray.empty wk0 1001 l wk0 (by simp [wk0]) (by simp [wk0]) OrdOk.start he
 exact ⟨a, b, d⟩
theorem goals_all {l : List ByteArray} (he : (l.foldl (fun s x => meetW P is true x s) wk0).e = 0) (x : ByteArray) : x ∈ (l.foldl (fun s x => meetW P is true x s) wk0).order ↔ x ∈ seenA P l [] := by
 obtain ⟨a, b, c⟩ := goals_ord he
 rw [← show (l.foldl (fun s x => meetW P is true x s) wk0).seen = seenA P l [] from goals_true l wk0 he]
 refine ⟨a.so x, fun h => ?_⟩
 rcases a.ow x h with q | q
 · exact q
 · rw [c] at q; cases q
end
end
section
open Ln Pth Vf
structure WkOk (s : Wk) : Prop where
 seen : s.seen.length ≤ 1000
 cnt : s.order.length + s.wait.length ≤ s.seen.length
theorem WkOk.start : WkOk wk0 := ⟨by simp [wk0], by simp [wk0]⟩
theorem WkOk.err {s : Wk} (h : WkOk s) (e : Nat) : WkOk { s with e := e } := ⟨h.seen, h.cnt⟩
theorem WkOk.more {s : Wk} (h : WkOk s) (t : ByteArray) (e : Nat) (hs : s.seen.length < 1000) : WkOk { s with seen := s.seen ++ [t], e := e } := by
 have := h.cnt
 refine ⟨?_, ?_⟩
 · show (s.seen ++ [t]).length ≤ 1000
   rw [List.length_append, List.length_singleton]; omega
 · show s.order.length + s.wait.length ≤ (s.seen ++ [t]).length
   rw [List.length_append, List.length_singleton]; omega
theorem WkOk.enter {s : Wk} (h : WkOk s) (t : ByteArray) (hs : s.seen.length < 1000) : WkOk (enterW t s) := by
 have := h.cnt
 refine ⟨?_, ?_⟩
 · show (s.seen ++ [t]).length ≤ 1000
   rw [List.length_append, List.length_singleton]; omega
 · show s.order.length + (s.wait ++ [t]).length ≤ (s.seen ++ [t]).length
   rw [List.length_append, List.length_append, List.length_singleton]; omega
theorem WkOk.leave {s : Wk} (h : WkOk s) (t : ByteArray) (hw : s.wait ≠ []) : WkOk (leave t s) := by
 have := h.cnt
 have := List.length_pos_iff.2 hw
 refine ⟨h.seen, ?_⟩
 show (s.order ++ [t]).length + s.wait.dropLast.length ≤ s.seen.length
 rw [List.length_append, List.length_singleton, List.length_dropLast]; omega
section
variable {P : ByteArray → Pn} {is : ByteArray → Bool} {stop : Bool}
theorem meetF_ok : ∀ (n : Nat) (t : ByteArray) (s : Wk), WkOk s → WkOk (meetF P is stop n t s)
 | 0, _, _, h => h
 | n + 1, t, s, h => by
   rw [meetF]
   split
   · exact h
   · split
     · split
       · exact h.err 18
       · exact h
     · split
       · split
         · exact h.err 3
         · exact h
       · rename_i h3
         have hs : s.seen.length < 1000 := by
           by_cases q : 1000 ≤ s.seen.length
           · exact absurd (Or.inl q) h3
           · omega
         split
         · exact h.more t 19 hs
         · have := fold_inv (f := fun s x => meetF P is stop n x s) (Q := fun z => WkOk z ∧ z.wait = s.wait ++ [t]) (fun a b h => ⟨meetF_ok n b a h.1, by rw [meetF_wait n b a, h.2]⟩) (P t).needs (enterW t s) ⟨h.enter t hs, rfl⟩
           exact this.1.leave t (by rw [this.2]; simp)
theorem foldF_ok (n : Nat) (l : List ByteArray) (s : Wk) (h : WkOk s) : WkOk (l.foldl (fun s x => meetF P is stop n x s) s) := fold_inv (f := fun s x => meetF P is stop n x s) (Q := fun z => WkOk z) (fun a b h => meetF_ok n b a h) _ _ h
end
end
section
open Go.RowKit Go.Deep Ln
attribute [local go_sem] bt_eq
theorem getD_nat (l : T) (k : Nat) (n : Nat) (hn : n < 256) : ((((bt (bs l) k : Nat) : Int) == (n : Int))) = decide (l.getD k 0 = UInt8.ofNat n) := by
 rw [bt_bs, Bool.eq_iff_iff]
 simp only [beq_iff_eq, decide_eq_true_eq]
 constructor
 · intro h
   have : (l.getD k 0).toNat = n := by omega
   rw [← this]; simp
 · intro h
   rw [h]
   simp [UInt8.toNat_ofNat']
   omega
def ixFrom (l : T) (c : UInt8) (k : Nat) : Int := if Lib.indexByte (l.drop k) c = -1 then -1 else (k : Int) + Lib.indexByte (l.drop k) c
theorem rat0_any (l : T) (c : UInt8) (w : World) (h : l.length ≤ 59400000) : Calls Tryz.prog 51 #[.string (bs l), .int .u8 c.toNat] w fun e w' => e = .returned (.int .i64 (Lib.indexByte l c)) ∧ w = w' := by
 have hz : (bs l).size = l.length := bs_size l
 have hz1 : (bs l).size ≤ 59400000 := by omega
 have HZ := hide hz
 have HR0 := hide (show ixFrom l c 0 = Lib.indexByte l c by unfold ixFrom; rw [List.drop_zero]; split <;> omega)
 have hc256 : c.toNat < 256 := c.toNat_lt
 obtain ⟨R, hR⟩ : ∃ R, Lib.indexByte l c = R := ⟨_, rfl⟩
 rw [hR] at HR0 ⊢
 clear hz hR
 go_enter Tryz.func51, Tryz.ntmps51
 go_wp2
 go_loop [5] (fun v5 => ∃ k : Nat, v5 = .int .i64 k ∧ k ≤ (bs l).size ∧ Hid (ixFrom l c k = R)) (fun v5 => (bs l).size - (intOf v5).toNat)
 case atStart => exact ⟨0, rfl, by omega, HR0⟩
 case round =>
   obtain ⟨k, rfl, hk, HR⟩ := hrel
   by_cases hlt : k < (bs l).size
   · have hkl : k < l.length := by have := HZ.out; omega
     have q := getD_nat l k c.toNat hc256
     have hd : l.drop k = l.getD k 0 :: l.drop (k + 1) := by
       rw [List.drop_eq_getElem_cons hkl]; simp [hkl]
     by_cases he : l.getD k 0 = c
     · have g1 : (((bt (bs l) k : Nat) : Int) == ((c.toNat : Nat) : Int)) = true := by rw [q]; simpa using he
       have HE := hide (show (k : Int) = R by rw [← HR.out]; unfold ixFrom; rw [hd, Lib.indexByte, he]; simp)
       clear q hd he
       go_wp2
       go_ret
       refine ⟨?_, rfl⟩
       rw [← HE.out]
       rfl
     · have g1 : (((bt (bs l) k : Nat) : Int) == ((c.toNat : Nat) : Int)) = false := by rw [q]; simpa using he
       have HE := hide (show ixFrom l c (k + 1) = R by
         rw [← HR.out]
         unfold ixFrom
         have hne : (l.getD k 0 == c) = false := by simpa using he
         rw [hd, Lib.indexByte, hne]
         simp only [Bool.false_eq_true, if_false]
         have := ixb_ge c (l.drop (k + 1))
         by_cases h1 : Lib.indexByte (l.drop (k + 1)) c = -1
         · rw [h1]; rfl
         · have hb : (Lib.indexByte (l.drop (k + 1)) c == -1) = false := by simpa using h1
           rw [hb, if_neg h1]
           simp only [Bool.false_eq_true, if_false]
           rw [if_neg (by omega)]
           omega)
       clear q hd he
       go_wp2
       go_round
       case rel => exact ⟨k + 1, by go_num, by omega, HE⟩
       case measure => simp [intOf]; omega
   · have HE := hide (show (-1 : Int) = R by
       rw [← HR.out]
       unfold ixFrom
       rw [List.drop_of_length_le (by have := HZ.out; omega)]
       rfl)
     go_wp2
     go_ret
     refine ⟨?_, rfl⟩
     rw [← HE.out]
     rfl
end
section
open Ln Pth Vf
theorem az_fin : ∀ n : Fin 256, azT.contains (UInt8.ofNat n.1) = (decide (n.1 = 95) || (decide (65 ≤ n.1) && decide (n.1 ≤ 90))) := by decide +kernel
theorem az_iff (c : UInt8) : azT.contains c = (decide (c.toNat = 95) || (decide (65 ≤ c.toNat) && decide (c.toNat ≤ 90))) := by
 have := az_fin ⟨c.toNat, c.toNat_lt⟩
 simpa using this
theorem dw_all {α : Type} {p : α → Bool} : ∀ {l : List α}, (∀ x ∈ l.dropWhile p, p x = true) → ∀ x ∈ l, p x = true
 | [], _, x, hx => by cases hx
 | a :: l, h, x, hx => by
   cases ha : p a with
   | true =>
     rw [List.dropWhile_cons_of_pos ha] at h
     rcases List.mem_cons.1 hx with rfl | hx
     · exact ha
     · exact dw_all h x hx
   | false =>
     rw [List.dropWhile_cons_of_neg (by simp [ha])] at h
     exact h x hx
theorem dw_nil {α : Type} {p : α → Bool} : ∀ {l : List α}, (∀ x ∈ l, p x = true) → l.dropWhile p = []
 | [], _ => rfl
 | a :: l, h => by
   rw [List.dropWhile_cons_of_pos (h a (by simp))]
   exact dw_nil fun x hx => h x (by simp [hx])
theorem dw_empty {α : Type} {p : α → Bool} {l : List α} (h : l.dropWhile p = []) : ∀ x ∈ l, p x = true := dw_all fun x hx => by rw [h] at hx; cases hx
theorem trimS_nil_iff (l cs : List UInt8) : Lib.trimS l cs = [] ↔ ∀ c ∈ l, cs.contains c = true := by
 unfold Lib.trimS Lib.trimLeftS Lib.trimRightS
 constructor
 · intro h
   have h1 := dw_empty h
   have h2 : ∀ x ∈ l.reverse.dropWhile (cs.contains ·), cs.contains x = true := fun x hx => h1 x (by simpa using hx)
   exact fun c hc => dw_all h2 c (by simpa using hc)
 · intro h
   rw [dw_nil (l := l.reverse) (fun x hx => h x (by simpa using hx))]
   rfl
theorem spec_eq (s : T) : specT s = (decide (1 < s.length) && (decide (s.getD 0 0 = 46) && (s.drop 1).all (azT.contains ·))) := by
 unfold specT
 congr 2
 rw [Bool.eq_iff_iff, decide_eq_true_eq, trimS_nil_iff, List.all_eq_true]
theorem spec_all_take {s : T} {k : Nat} (hk : k < s.length) (h1 : 1 ≤ k) : ((s.take (k + 1)).drop 1).all (azT.contains ·) = (((s.take k).drop 1).all (azT.contains ·) && azT.contains (s.getD k 0)) := by
 rw [List.take_add_one, List.drop_append_of_le_length (by rw [List.length_take]; omega), List.all_append]
 congr 1
 rw [List.getElem?_eq_getElem hk, List.getD_eq_getElem?_getD, List.getElem?_eq_getElem hk]
 simp
theorem spec_no {s : T} {k : Nat} (hk : k < s.length) (h1 : 1 ≤ k) (h : azT.contains (s.getD k 0) = false) : (s.drop 1).all (azT.contains ·) = false := by
 rw [List.all_eq_false]
 refine ⟨s.getD k 0, ?_, by rw [h]; exact Bool.false_ne_true⟩
 rw [List.getD_eq_getElem?_getD, List.getElem?_eq_getElem hk]
 obtain ⟨j, rfl⟩ : ∃ j, k = 1 + j := ⟨k - 1, by omega⟩
 have : (s.drop 1)[j]? = some (s[1 + j]) := by rw [List.getElem?_drop]; exact List.getElem?_eq_getElem hk
 exact List.mem_of_getElem? this
theorem known_eq (L : List Rl) (s : ByteArray) : Lib.containsS (knownsF L) s = knownR L s := by
 rw [Bool.eq_iff_iff, Lib.containsS_iff]
 unfold knownsF knownR
 rw [List.mem_flatMap, List.any_eq_true]
 unfold ofR
 constructor
 · rintro ⟨r, hr, h⟩
   refine ⟨r, hr, ?_⟩
   split at h
   · rename_i hp
     rw [hp, Bool.true_and, Lib.containsS_iff]; exact h
   · cases h
 · rintro ⟨r, hr, h⟩
   rw [Bool.and_eq_true] at h
   exact ⟨r, hr, by rw [if_pos h.1]; exact (Lib.containsS_iff _ _).1 h.2⟩
theorem cut_one (p : T) : Lib.cut p [37] = if 0 ≤ Lib.indexByte p 37 then (p.take (Lib.indexByte p 37).toNat, p.drop ((Lib.indexByte p 37).toNat + 1), true) else (p, [], false) := by
 unfold Lib.cut
 rw [Lib.index_one]
 rfl
theorem cuts_no {p : T} (h : ¬ 0 ≤ Lib.indexByte p 37) : cutsT p = false := by unfold cutsT; rw [cut_one, if_neg h]
theorem cuts_at {p : T} {k : Nat} (h : Lib.indexByte p 37 = (k : Int)) : cutsT p = true ∧ frontT p = p.take k ∧ backT p = p.drop (k + 1) ∧ k < p.length := by
 have hc : Lib.cut p [37] = (p.take k, p.drop (k + 1), true) := by
   rw [cut_one, h, if_pos (by omega)]
   rfl
 unfold cutsT frontT backT
 rw [hc]
 refine ⟨rfl, rfl, rfl, ?_⟩
 have := (Lib.indexByte_some h).1
 exact (List.getElem?_eq_some_iff.1 this).1
theorem two_hit {all : List ByteArray} {t : T} {a b : ByteArray} (hb : b ∈ all) (h : a ++ b = bs t) : (Lib.hasPrefix t a.data.toList && Lib.containsS all (bs (t.drop a.size))) = true ∧ bs (t.drop a.size) = b := by
 have ht : t = a.data.toList ++ b.data.toList := by
   have := congrArg (fun s => s.data.toList) h
   simpa [bs_list] using this.symm
 have hd : bs (t.drop a.size) = b := by
   rw [ht, ← data_len a, List.drop_left, bs_of]
 refine ⟨?_, hd⟩
 rw [Bool.and_eq_true, hd, Lib.containsS_iff]
 refine ⟨?_, hb⟩
 unfold Lib.hasPrefix
 rw [ht, List.isPrefixOf_iff_prefix]
 exact List.prefix_append _ _
theorem two_miss {all : List ByteArray} {t : T} {a : ByteArray} (h : ∀ b ∈ all, a ++ b ≠ bs t) : (Lib.hasPrefix t a.data.toList && Lib.containsS all (bs (t.drop a.size))) = false := by
 rw [Bool.eq_false_iff]
 intro e
 rw [Bool.and_eq_true, Lib.containsS_iff] at e
 obtain ⟨h1, h2⟩ := e
 unfold Lib.hasPrefix at h1
 rw [List.isPrefixOf_iff_prefix] at h1
 obtain ⟨r, hr⟩ := h1
 refine h _ h2 ?_
 apply ByteArray.ext
 apply Array.toList_inj.1
 rw [bs_list, ← hr, ← data_len a, List.drop_left]
 simp [bs_list]
def fitsO (S : St) (cwd : T) (kl : List ByteArray) (target : T) (r : Rl) : Option (List ByteArray × T) :=
 match firstF target r.tg.2.2 with
 | none => none
 | some st => if thereF S cwd kl (fillsF r st) = true then some (fillsF r st, st) else none
theorem patO_fits (S : St) (cwd : T) (kl : List ByteArray) (target : T) (r : Rl) (p : Pn) : patO S cwd kl target r p = (fitsO S cwd kl target r).map fun q => takesF p q.1 r.rc.2.2 q.2 := by
 unfold patO fitsO
 cases firstF target r.tg.2.2 with
 | none => rfl
 | some st =>
   simp only
   split <;> rfl
def sufQ (S : St) (cwd : T) (kl : List ByteArray) (target : T) (R : T × T × Bool) : Option (T × T) :=
 if R.2.2 = false then none else
 if target.length ≤ R.2.1.length then none else
 if Lib.hasSuffix target R.2.1 = false then none else
 if target.take (target.length - R.2.1.length) ++ R.1 = target then none else
 if kindT S cwd (target.take (target.length - R.2.1.length) ++ R.1) ≠ 1 ∧ Lib.containsS kl (bs (target.take (target.length - R.2.1.length) ++ R.1)) = false then none else
 some (target.take (target.length - R.2.1.length) ++ R.1, target.take (target.length - R.2.1.length))
def sufF (S : St) (cwd : T) (kl : List ByteArray) (target : T) (l : List ByteArray) (r : Rl) : Option (T × T) :=
 if r.rc.2.2.length = 0 ∨ 0 < r.nd.2.2.length then none else
 match r.tg.2.2 with
 | [t] =>
   if specT t.data.toList = true ∨ Lib.hasPrefix t.data.toList [46] = false ∨ isP t = true then none else sufQ S cwd kl target (twoF t.data.toList l)
 | _ => none
theorem suf1_eq (S : St) (cwd : T) (kl : List ByteArray) (target : T) (l : List ByteArray) (r : Rl) (p : Pn) : suf1 S cwd kl target l p r = (sufF S cwd kl target l r).map fun q => takesF p [bs q.1] r.rc.2.2 q.2 := by
 rcases r with ⟨⟨ta, tc, tl⟩, nd, rc⟩
 unfold suf1 sufF
 dsimp only
 by_cases h1 : rc.2.2.length = 0
 · rw [if_pos h1, if_pos (Or.inl h1)]; rfl
 rw [if_neg h1]
 unfold sufO
 dsimp only
 by_cases h2 : 0 < nd.2.2.length
 · rw [if_pos (Or.inr h2)]
   split
   · rfl
   · rfl
 rw [if_neg (show ¬ (rc.2.2.length = 0 ∨ 0 < nd.2.2.length) by rintro (h | h); exact h1 h; exact h2 h), if_neg h2]
 match tl with
 | [] => simp
 | [t] =>
   have hpl : plainR [t] = !isP t := by unfold plainR; simp
   dsimp only
   rw [hpl]
   by_cases h3 : isP t = true
   · rw [if_pos (by simp [h3]), if_pos (Or.inr (Or.inr h3))]; rfl
   rw [if_neg (by simp [h3])]
   by_cases h4 : specT t.data.toList = true
   · rw [if_pos h4, if_pos (Or.inl h4)]; rfl
   rw [if_neg h4]
   by_cases h5 : Lib.hasPrefix t.data.toList [46] = false
   · rw [if_pos h5, if_pos (Or.inr (Or.inl h5))]; rfl
   rw [if_neg h5, if_neg (show ¬ (specT t.data.toList = true ∨ Lib.hasPrefix t.data.toList [46] = false ∨ isP t = true) by rintro (h | h | h); exact h4 h; exact h5 h; exact h3 h)]
   unfold sufQ
   generalize twoF t.data.toList l = R
   by_cases h6 : R.2.2 = false
   · rw [if_pos h6, if_pos h6]; rfl
   rw [if_neg h6, if_neg h6]
   by_cases h7 : Lib.hasSuffix target R.2.1 = false
   · rw [if_pos h7]
     split
     · rfl
     · rfl
   have h7' : Lib.hasSuffix target R.2.1 = true := by simpa using h7
   rw [if_neg h7]
   by_cases h8 : target.length ≤ R.2.1.length
   · rw [if_pos h8, if_pos h8]; rfl
   rw [if_neg h8, if_neg h8, if_neg h7]
   unfold Lib.trimSuffix
   rw [if_pos h7']
   generalize target.take (target.length - R.2.1.length) = st
   split
   · rfl
   · split
     · rfl
     · rfl
 | t :: u :: tl => simp
end
section
open Go.RowKit Go.Deep Ln Pth
attribute [local go_sem] bt_eq
theorem rbegins_eq (s x : ByteArray) (h : x.size ≤ s.size) : ((s.extract 0 x.size).toList == x.toList) = Lib.hasPrefix s.data.toList x.data.toList := by
 rw [← Lib.hasPrefix_of_take, Lib.toList_data, Lib.toList_data, Lib.extract_data]
 have h1 : x.data.toList.length ≤ s.data.toList.length := by simpa using h
 rw [decide_eq_true h1, Bool.true_and, List.drop_zero, Nat.sub_zero]
 have : x.data.toList.length = x.size := by simp
 rw [this]
theorem rbegins_no (s x : ByteArray) (h : ¬ x.size ≤ s.size) : Lib.hasPrefix s.data.toList x.data.toList = false := by
 rw [← Lib.hasPrefix_of_take]
 have h1 : ¬ x.data.toList.length ≤ s.data.toList.length := by simpa using h
 rw [decide_eq_false h1, Bool.false_and]
theorem retB {a b : Bool} (h : a = b) : Ending.returned (.bool a) = .returned (.bool b) := by rw [h]
theorem rbegins_any (s x : ByteArray) (w : World) : Calls Tryz.prog 50 #[.string s, .string x] w fun e w' => e = .returned (.bool (Lib.hasPrefix s.data.toList x.data.toList)) ∧ w = w' := by
 by_cases h : x.size ≤ s.size
 · have HE := hide (rbegins_eq s x h)
   have hd : decide (x.size ≤ s.size) = true := by simpa using h
   have hi : (x.size : Int) ≤ (s.size : Int) := by omega
   go_enter Tryz.func50, Tryz.ntmps50
   go_wp2
   go_ret
   exact ⟨retB (by rw [← HE.out]), rfl⟩
 · have HE := hide (rbegins_no s x h)
   have hd : decide (x.size ≤ s.size) = false := by simpa using h
   go_enter Tryz.func50, Tryz.ntmps50
   go_wp2
   go_ret
   exact ⟨retB (by rw [HE.out]), rfl⟩
def namesP (l : List T) (p : T) : List T := (spl 47 p).foldl stepP l
theorem parts_names (cwd p : T) : partsF cwd p = namesP (if p.head? = some 47 then [] else namesP [] cwd) p := by
 unfold partsF namesP
 split
 · rfl
 · rw [List.foldl_append]
theorem stepP_len (K : List T) (s : T) : (stepP K s).length ≤ K.length + 1 := by
 unfold stepP
 split
 · omega
 · split
   · rw [List.length_dropLast]; omega
   · simp
theorem dropT {p : T} {a i : Nat} (ha : a ≤ i) (hi : i < p.length) : p.drop a = (p.drop a).take (i - a) ++ p[i] :: p.drop (i + 1) := by
 conv => lhs; rw [← List.take_append_drop (i - a) (p.drop a)]
 rw [List.drop_drop, show a + (i - a) = i by omega, List.drop_eq_getElem_cons hi]
theorem takeT {p : T} {a i : Nat} (ha : a ≤ i) (hi : i < p.length) : (p.drop a).take (i + 1 - a) = (p.drop a).take (i - a) ++ [p[i]] := by
 rw [show i + 1 - a = (i - a) + 1 by omega, List.take_add_one, List.getElem?_drop, show a + (i - a) = i by omega, List.getElem?_eq_getElem hi]
 rfl
theorem below_gbX {B : Nat} {w wr w4 : World} {A : Option Addr} {k c : Nat} {L : List ByteArray} {o : Obj} (hb : Below B w wr) (g4 : (wr.alloc o).grownBy w4 (Value.slice A k c).ownBlock) (ho : OwnS wr B (.slice A k c) L) (hB : B ≤ wr.heap.size) : Below B w w4 := by
 have h1 := hb.alloc hB o
 exact h1.grown g4 (by simp; omega) (fun q hq => (World.ownsRow.lt ho q hq).1)
theorem rnames_any (B : Nat) (v : Value) (L : List T) (p : T) (w : World) (hv : OwnS w B v (L.map bs)) (hB : B ≤ w.heap.size) (hl : L.length ≤ 13200000) (hp : p.length ≤ 6600000) :
   Calls Tryz.prog 136 #[v, .string (bs p)] w fun e w' => (∃ v', e = .returned v' ∧ OwnS w' B v' ((namesP L p).map bs)) ∧ Below B w w' := by
 have HV := hide hv
 obtain ⟨R, hR⟩ : ∃ R, namesP L p = R := ⟨_, rfl⟩
 rw [hR]
 have ztx := bs_size p
 obtain ⟨n, hn⟩ : ∃ n, p.length = n := ⟨_, rfl⟩
 rw [hn] at ztx hp
 have HN := hide hn
 have HR := hide (show namesP L p = R from hR)
 have hni : (n : Int) ≤ 6600000 := by omega
 obtain ⟨A0, c0, e0, _, _, _⟩ := hv.slice
 subst e0
 clear hv hR hn
 go_enter Tryz.func136, Tryz.ntmps136
 go_wp2
 go_loopw [0, 5, 6, 7] (fun v0 v5 v6 _ wr => ∃ (i a : Nat) (K : List T), v5 = .int .i64 a ∧ v6 = .int .i64 i ∧ i ≤ n + 1 ∧ a ≤ i ∧ OwnS wr B v0 (K.map bs) ∧ Hid (i ≤ n → 47 ∉ (p.drop a).take (i - a)) ∧ Hid ((if i ≤ n then (spl 47 (p.drop a)).foldl stepP K else K) = R) ∧ K.length ≤ L.length + i ∧ Below B w wr) (fun _ _ v6 _ _ => n + 1 - (intOf v6).toNat)
 case atStart => exact ⟨0, 0, L, rfl, rfl, by omega, Nat.le_refl _, HV.out, (fun _ => by simp), (by rw [if_pos (Nat.zero_le _), List.drop_zero]; exact HR.out), by omega, Below.refl _ _⟩
 case round =>
   obtain ⟨i, a, K, rfl, rfl, hi, ha, hown, HNO, HF, hkl, hbl⟩ := hrel
   have HB := hide hbl
   have HO := hide hown
   obtain ⟨Ak, ck, ek, _, _, _⟩ := hown.slice
   subst ek
   have hbs : B ≤ wr.heap.size := by have := hbl.size; omega
   clear hown hbl
   by_cases hin : i ≤ n
   case neg =>
     have d1 : decide ((i : Int) ≤ (n : Int)) = false := by simp; omega
     have d1' : decide (i ≤ n) = false := by simp; omega
     have HE := hide (show K = R by have := HF.out; rwa [if_neg hin] at this)
     clear hin
     go_wp2
     go_ret
     refine ⟨⟨_, rfl, ?_⟩, HB.out⟩
     rw [← HE.out]
     exact HO.out
   have d1 : decide ((i : Int) ≤ (n : Int)) = true := by simp; omega
   have d1' : decide (i ≤ n) = true := by simp; omega
   have hno := HNO.out hin
   have hf := HF.out
   rw [if_pos hin] at hf
   obtain ⟨s, hs⟩ : ∃ s, (p.drop a).take (i - a) = s := ⟨_, rfl⟩
   have hex : (bs p).extract a i = bs s := by rw [ext_bs, hs]
   have hai : (a : Int) ≤ (i : Int) := by omega
   have hii : (i : Int) ≤ (n : Int) := by omega
   rw [hs] at hno
   have hkm : (K.map bs).length = K.length := List.length_map _
   rw [hkm] at HO ⊢
   have HKM := hide hkm
   obtain ⟨kn, hkn⟩ : ∃ k, K.length = k := ⟨_, rfl⟩
   have HKN := hide hkn
   rw [hkn] at HO hkl ⊢
   clear hkm hkn
   by_cases hlt : i < n
   · obtain ⟨ch, hch⟩ : ∃ x, p[i]'(by have := HN.out; omega) = x := ⟨_, rfl⟩
     have hbt : bt (bs p) i = ch.toNat := by
       unfold bt bs
       simp [← hch, HN.out, hlt]
     have d2 : decide ((i : Int) < (n : Int)) = true := by simp; omega
     have d2' : decide (i < n) = true := by simp; omega
     have htk := takeT (p := p) ha (by have := HN.out; omega)
     have hdr := dropT (p := p) ha (by have := HN.out; omega)
     rw [hch, hs] at htk hdr
     by_cases h47 : ch = 47
     case neg =>
       have h47n : ¬ ch.toNat = 47 := fun e => h47 (UInt8.toNat_inj.1 e)
       have d3 : (((ch.toNat : Nat) : Int) != 47) = true := by simp; omega
       have HNO2 := hide (show 47 ∉ (p.drop a).take (i + 1 - a) by
         rw [htk]
         intro h
         rcases List.mem_append.1 h with h | h
         · exact hno h
         · exact h47 (List.mem_singleton.1 h).symm)
       obtain ⟨cn, hcn⟩ : ∃ c, ch.toNat = c := ⟨_, rfl⟩
       rw [hcn] at hbt d3 h47n
       clear htk hdr hno hf hs hex h47 hch hcn
       go_wp2
       go_roundw
       case rel => exact ⟨i + 1, a, K, rfl, by go_num, by omega, by omega, HO.out, (fun _ => HNO2.out), (by rw [if_pos (by omega)]; have := HF.out; rwa [if_pos hin] at this), (by have := HKN.out; omega), HB.out⟩
       case measure => simp [intOf] <;> omega
     subst h47
     have d3 : (((47 : UInt8).toNat : Nat) : Int) = 47 := rfl
     rw [hdr, spl_app _ hno, List.foldl_cons] at hf
     have HF2 := hide (show (if i + 1 ≤ n then (spl 47 (p.drop (i + 1))).foldl stepP (stepP K s) else stepP K s) = R by rw [if_pos (by omega)]; exact hf)
     rw [show (47 : UInt8).toNat = 47 from rfl] at hbt
     clear htk hdr hno hf hs hch d3
     by_cases s0 : s = []
     · have e0 : (bs s).toList.isEmpty = true := by rw [bs_toList, s0]; rfl
       have HST := hide (show stepP K s = K by rw [s0, stepP_nil])
       clear s0
       go_wp2
       go_roundw
       case rel => exact ⟨i + 1, i + 1, stepP K s, by go_num, by go_num, by omega, Nat.le_refl _, (by rw [HST.out]; exact HO.out), (fun _ => by simp), HF2.out, (by have := stepP_len K s; have := HKN.out; omega), HB.out⟩
       case measure => simp [intOf] <;> omega
     have e0 : (bs s).toList.isEmpty = false := by rw [bs_toList]; cases s with | nil => exact absurd rfl s0 | cons _ _ => rfl
     by_cases s1 : s = [46]
     · have e1 : ((bs s).toList == [46]) = true := by rw [bs_toList, s1]; rfl
       have HST := hide (show stepP K s = K by rw [stepP, if_pos (.inr s1)])
       clear s0 s1
       go_wp2
       go_roundw
       case rel => exact ⟨i + 1, i + 1, stepP K s, by go_num, by go_num, by omega, Nat.le_refl _, (by rw [HST.out]; exact HO.out), (fun _ => by simp), HF2.out, (by have := stepP_len K s; have := HKN.out; omega), HB.out⟩
       case measure => simp [intOf] <;> omega
     have e1 : ((bs s).toList == [46]) = false := by rw [bs_toList]; simpa using s1
     by_cases s2 : s = [46, 46]
     · have e2 : ((bs s).toList == [46, 46]) = true := by rw [bs_toList, s2]; rfl
       have HST := hide (show stepP K s = K.dropLast by rw [stepP, if_neg (by rintro (h | h); exact s0 h; exact s1 h), if_pos s2])
       clear s0 s1 s2
       by_cases k0 : kn = 0
       · subst k0
         have HKE := hide (show K = [] from List.eq_nil_of_length_eq_zero HKN.out)
         go_wp2
         go_roundw
         case rel => exact ⟨i + 1, i + 1, stepP K s, by go_num, by go_num, by omega, Nat.le_refl _, (by rw [HST.out, HKE.out]; have := HO.out; rw [HKE.out] at this; exact this), (fun _ => by simp), HF2.out, (by have := stepP_len K s; have := HKN.out; omega), HB.out⟩
         case measure => simp [intOf] <;> omega
       · have k1 : decide ((0 : Int) < (kn : Int)) = true := by simp; omega
         have k1' : decide (0 < kn) = true := by simp; omega
         obtain ⟨km, rfl⟩ : ∃ k, kn = k + 1 := ⟨kn - 1, by omega⟩
         have hcap : km + 1 ≤ ck := by
           obtain ⟨A9, c9, e9, l9, _, _⟩ := HO.out.slice
           have := HKN.out
           rw [List.length_map] at e9 l9
           injection e9 with _ _ e9
           omega
         have hcapi : (km : Int) ≤ (ck : Int) := by omega
         have hwr : IntKind.i64.wrap ((km : Int) + 1 - 1) = (km : Int) := by rw [show (km : Int) + 1 - 1 = (km : Int) by omega]; exact IntWalk.i64_in _ (by omega)
         have hwr2 : IntKind.i64.wrap (km : Int) = (km : Int) := IntWalk.i64_in _ (by omega)
         have HOD := hide (show OwnS wr B (.slice Ak km ck) (K.dropLast.map bs) from by
           have := OwnS.take HO.out (k := km) (by rw [List.length_map, HKN.out]; omega)
           rw [← List.map_take] at this
           rw [List.dropLast_eq_take, HKN.out]
           exact this)
         have hdl : (K.dropLast.map bs).length = km := by rw [List.length_map, List.length_dropLast, HKN.out]; rfl
         have HDL := hide hdl
         clear k0 hdl hcap
         go_wp2
         go_roundw
         case rel => exact ⟨i + 1, i + 1, stepP K s, by go_num, by go_num, by omega, Nat.le_refl _, (by rw [HST.out]; exact HOD.out), (fun _ => by simp), HF2.out, (by have := stepP_len K s; have := HKN.out; omega), HB.out⟩
         case measure => simp [intOf] <;> omega
     have e2 : ((bs s).toList == [46, 46]) = false := by rw [bs_toList]; simpa using s2
     have HST := hide (show stepP K s = K ++ [s] by rw [stepP, if_neg (by rintro (h | h); exact s0 h; exact s1 h), if_neg s2])
     obtain ⟨v4, w4, r4, o4, g4, b4⟩ := run_appS (c := 1) (OwnS.alloc HO.out (.cells #[.string (bs s)] 9)) (sr_new wr (bs s)) (by simp; omega) (by have := HKN.out; simp; omega)
     have HO4 := hide (show OwnS w4 B v4 ((K ++ [s]).map bs) by rw [List.map_append]; exact o4)
     have HB4 := hide (below_gbX HB.out g4 HO.out hbs)
     obtain ⟨A4, c4, e4, _, _, _⟩ := o4.slice
     have hl4 : (K.map bs ++ [bs s]).length = kn + 1 := by rw [List.length_append, HKM.out, HKN.out]; rfl
     rw [hl4] at e4
     subst e4
     clear s0 s1 s2 o4 g4 b4 hl4
     go_wp2_with (at_builtin; refine wpList_app_run ?_ (.tmp 30) (.tmp 32) ?_ ?_ ?_ ?_ r4 ?_; exact rfl; exact rfl; exact rfl; exact rfl; exact rfl)
     go_roundw
     case rel => exact ⟨i + 1, i + 1, stepP K s, by go_num, by go_num, by omega, Nat.le_refl _, (by rw [HST.out]; exact HO4.out), (fun _ => by simp), HF2.out, (by have := stepP_len K s; have := HKN.out; omega), HB4.out⟩
     case measure => simp [intOf] <;> omega
   · have d2 : decide ((i : Int) < (n : Int)) = false := by simp; omega
     have d2' : decide (i < n) = false := by simp; omega
     obtain rfl : n = i := by omega
     have hsd : p.drop a = s := by rw [← hs, List.take_of_length_le (by have := HN.out; rw [List.length_drop]; omega)]
     rw [hsd, spl_none hno] at hf
     have HF2 := hide (show (if n + 1 ≤ n then (spl 47 (p.drop (n + 1))).foldl stepP (stepP K s) else stepP K s) = R by rw [if_neg (by omega)]; exact hf)
     clear hno hf hs hsd
     by_cases s0 : s = []
     · have e0 : (bs s).toList.isEmpty = true := by rw [bs_toList, s0]; rfl
       have HST := hide (show stepP K s = K by rw [s0, stepP_nil])
       clear s0
       go_wp2
       go_roundw
       case rel => exact ⟨n + 1, n + 1, stepP K s, by go_num, by go_num, by omega, Nat.le_refl _, (by rw [HST.out]; exact HO.out), (fun _ => by simp), HF2.out, (by have := stepP_len K s; have := HKN.out; omega), HB.out⟩
       case measure => simp [intOf] <;> omega
     have e0 : (bs s).toList.isEmpty = false := by rw [bs_toList]; cases s with | nil => exact absurd rfl s0 | cons _ _ => rfl
     by_cases s1 : s = [46]
     · have e1 : ((bs s).toList == [46]) = true := by rw [bs_toList, s1]; rfl
       have HST := hide (show stepP K s = K by rw [stepP, if_pos (.inr s1)])
       clear s0 s1
       go_wp2
       go_roundw
       case rel => exact ⟨n + 1, n + 1, stepP K s, by go_num, by go_num, by omega, Nat.le_refl _, (by rw [HST.out]; exact HO.out), (fun _ => by simp), HF2.out, (by have := stepP_len K s; have := HKN.out; omega), HB.out⟩
       case measure => simp [intOf] <;> omega
     have e1 : ((bs s).toList == [46]) = false := by rw [bs_toList]; simpa using s1
     by_cases s2 : s = [46, 46]
     · have e2 : ((bs s).toList == [46, 46]) = true := by rw [bs_toList, s2]; rfl
       have HST := hide (show stepP K s = K.dropLast by rw [stepP, if_neg (by rintro (h | h); exact s0 h; exact s1 h), if_pos s2])
       clear s0 s1 s2
       by_cases k0 : kn = 0
       · subst k0
         have HKE := hide (show K = [] from List.eq_nil_of_length_eq_zero HKN.out)
         go_wp2
         go_roundw
         case rel => exact ⟨n + 1, n + 1, stepP K s, by go_num, by go_num, by omega, Nat.le_refl _, (by rw [HST.out, HKE.out]; have := HO.out; rw [HKE.out] at this; exact this), (fun _ => by simp), HF2.out, (by have := stepP_len K s; have := HKN.out; omega), HB.out⟩
         case measure => simp [intOf] <;> omega
       · have k1 : decide ((0 : Int) < (kn : Int)) = true := by simp; omega
         have k1' : decide (0 < kn) = true := by simp; omega
         obtain ⟨km, rfl⟩ : ∃ k, kn = k + 1 := ⟨kn - 1, by omega⟩
         have hcap : km + 1 ≤ ck := by
           obtain ⟨A9, c9, e9, l9, _, _⟩ := HO.out.slice
           have := HKN.out
           rw [List.length_map] at e9 l9
           injection e9 with _ _ e9
           omega
         have hcapi : (km : Int) ≤ (ck : Int) := by omega
         have hwr : IntKind.i64.wrap ((km : Int) + 1 - 1) = (km : Int) := by rw [show (km : Int) + 1 - 1 = (km : Int) by omega]; exact IntWalk.i64_in _ (by omega)
         have hwr2 : IntKind.i64.wrap (km : Int) = (km : Int) := IntWalk.i64_in _ (by omega)
         have HOD := hide (show OwnS wr B (.slice Ak km ck) (K.dropLast.map bs) from by
           have := OwnS.take HO.out (k := km) (by rw [List.length_map, HKN.out]; omega)
           rw [← List.map_take] at this
           rw [List.dropLast_eq_take, HKN.out]
           exact this)
         have hdl : (K.dropLast.map bs).length = km := by rw [List.length_map, List.length_dropLast, HKN.out]; rfl
         have HDL := hide hdl
         clear k0 hdl hcap
         go_wp2
         go_roundw
         case rel => exact ⟨n + 1, n + 1, stepP K s, by go_num, by go_num, by omega, Nat.le_refl _, (by rw [HST.out]; exact HOD.out), (fun _ => by simp), HF2.out, (by have := stepP_len K s; have := HKN.out; omega), HB.out⟩
         case measure => simp [intOf] <;> omega
     have e2 : ((bs s).toList == [46, 46]) = false := by rw [bs_toList]; simpa using s2
     have HST := hide (show stepP K s = K ++ [s] by rw [stepP, if_neg (by rintro (h | h); exact s0 h; exact s1 h), if_neg s2])
     obtain ⟨v4, w4, r4, o4, g4, b4⟩ := run_appS (c := 1) (OwnS.alloc HO.out (.cells #[.string (bs s)] 9)) (sr_new wr (bs s)) (by simp; omega) (by have := HKN.out; simp; omega)
     have HO4 := hide (show OwnS w4 B v4 ((K ++ [s]).map bs) by rw [List.map_append]; exact o4)
     have HB4 := hide (below_gbX HB.out g4 HO.out hbs)
     obtain ⟨A4, c4, e4, _, _, _⟩ := o4.slice
     have hl4 : (K.map bs ++ [bs s]).length = kn + 1 := by rw [List.length_append, HKM.out, HKN.out]; rfl
     rw [hl4] at e4
     subst e4
     clear s0 s1 s2 o4 g4 b4 hl4
     go_wp2_with (at_builtin; refine wpList_app_run ?_ (.tmp 30) (.tmp 32) ?_ ?_ ?_ ?_ r4 ?_; exact rfl; exact rfl; exact rfl; exact rfl; exact rfl)
     go_roundw
     case rel => exact ⟨n + 1, n + 1, stepP K s, by go_num, by go_num, by omega, Nat.le_refl _, (by rw [HST.out]; exact HO4.out), (fun _ => by simp), HF2.out, (by have := stepP_len K s; have := HKN.out; omega), HB4.out⟩
     case measure => simp [intOf] <;> omega
theorem namesP_len (L : List T) (p : T) : (namesP L p).length ≤ L.length + (p.length + 1) := Nat.le_trans (foldl_len _ _) (by have := spl_len 47 p; omega)
theorem rparts_any (cwd p : T) (w : World) (h1 : cwd.length ≤ 6600000) (h2 : p.length ≤ 6600000) :
   Calls Tryz.prog 102 #[.string (bs cwd), .string (bs p)] w fun e w' => (∃ v, e = .returned v ∧ OwnS w' w.heap.size v ((partsF cwd p).map bs)) ∧ Below w.heap.size w w' := by
 have hpf := rbegins_any (bs p) ⟨#[47]⟩
 rw [show (⟨#[47]⟩ : ByteArray).data.toList = [47] from rfl, pre_slash] at hpf
 have hR := parts_names cwd p
 by_cases hc : p.head? = some 47
 · rw [decide_eq_true hc] at hpf
   rw [if_pos hc] at hR
   have HPF := hide hpf
   have HNM := hide (rnames_any w.heap.size (.slice none 0 0) [] p w (OwnS.nil _ _) (Nat.le_refl _) (by simp) h2)
   rw [← hR] at HNM
   clear hpf hR hc
   go_enter Tryz.func102, Tryz.ntmps102
   go_wp2_with fail
   refine (HPF.out w).mono ?_
   rintro e w' ⟨rfl, rfl⟩
   go_wp2_with fail
   refine HNM.out.mono ?_
   rintro e w2 ⟨⟨v, rfl, ho⟩, hb⟩
   have HO := hide ho
   have HB := hide hb
   clear ho hb
   go_wp2
   go_ret
   exact ⟨⟨_, rfl, HO.out⟩, HB.out⟩
 · rw [decide_eq_false hc] at hpf
   rw [if_neg hc] at hR
   have HPF := hide hpf
   have HNM := hide (rnames_any w.heap.size (.slice none 0 0) [] cwd w (OwnS.nil _ _) (Nat.le_refl _) (by simp) h1)
   have hnl := namesP_len [] cwd
   have HNN := hide (fun (W : World) (v : Value) (hv : OwnS W w.heap.size v ((namesP [] cwd).map bs)) (hs : w.heap.size ≤ W.heap.size) => rnames_any w.heap.size v (namesP [] cwd) p W hv hs (by simp at hnl; omega) h2)
   rw [← hR] at HNN
   clear hpf hR hc hnl
   go_enter Tryz.func102, Tryz.ntmps102
   go_wp2_with fail
   refine (HPF.out w).mono ?_
   rintro e w' ⟨rfl, rfl⟩
   go_wp2_with fail
   refine HNM.out.mono ?_
   rintro e w2 ⟨⟨v, rfl, ho⟩, hb⟩
   have HN2 := hide (HNN.out w2 v ho hb.size)
   have HB := hide hb
   clear ho hb
   go_wp2_with fail
   refine HN2.out.mono ?_
   rintro e w3 ⟨⟨v3, rfl, ho⟩, hb3⟩
   have HO := hide ho
   have HB3 := hide (HB.out.trans hb3)
   clear ho hb3
   go_wp2
   go_ret
   exact ⟨⟨_, rfl, HO.out⟩, HB3.out⟩
theorem slashed_take {L : List T} {k : Nat} {s : T} (h : L[k]? = some s) : slashed (L.take (k + 1)) = slashed (L.take k) ++ 47 :: s := by
 rw [List.take_add_one, h, slashed_app]
 simp [slashed]
theorem slashed_take_len (L : List T) (k : Nat) : (slashed (L.take k)).length ≤ (slashed L).length := by
 conv => rhs; rw [← List.take_append_drop k L, slashed_app, List.length_append]
 omega
theorem rwrite_any (A : Option Addr) (c : Nat) (L : List T) (w : World) (hA : SR w A (L.map bs)) (hl : (slashed L).length ≤ 59400000) (hll : L.length ≤ 59400000) :
   Calls Tryz.prog 135 #[.slice A L.length c] w fun e w' => e = .returned (.string (bs (joinF L))) ∧ w = w' := by
 have HA := hide hA
 have HL := hide hl
 obtain ⟨n, hn⟩ : ∃ n, L.length = n := ⟨_, rfl⟩
 rw [hn] at hll ⊢
 have HN := hide hn
 have hni : (n : Int) ≤ 59400000 := by omega
 clear hA hl hn
 go_enter Tryz.func135, Tryz.ntmps135
 go_wp2
 go_loopw [3, 4] (fun v3 v4 wr => ∃ k : Nat, v4 = .int .i64 k ∧ k ≤ n ∧ v3 = .string (bs (slashed (L.take k))) ∧ w = wr) (fun _ v4 _ => n - (intOf v4).toNat)
 case atStart => exact ⟨0, rfl, by omega, by simp [slashed, bs], rfl⟩
 case round =>
   obtain ⟨k, rfl, hk, rfl, rfl⟩ := hrel
   by_cases hlt : k < n
   · obtain ⟨x, hx⟩ : ∃ x, L[k]? = some x := ⟨L[k]'(by have := HN.out; omega), gE _⟩
     obtain ⟨g, o, rfl, hg, hc⟩ := HA.out k (bs x) (by simp [hx])
     have b1 : (k : Int) < (n : Int) := by omega
     have h1 := slashed_take_len L (k + 1)
     have h2 := slashed_take hx
     rw [h2, List.length_append, List.length_cons] at h1
     have h3 := HL.out
     have hz1 := bs_size (slashed (L.take k))
     have hz2 := bs_size x
     obtain ⟨P, hP⟩ : ∃ P, bs (slashed (L.take k)) = P := ⟨_, rfl⟩
     obtain ⟨Q, hQ⟩ : ∃ Q, bs x = Q := ⟨_, rfl⟩
     have HE := hide (show P ++ ⟨#[47]⟩ ++ Q = bs (slashed (L.take (k + 1))) by rw [← hP, ← hQ, h2, show (⟨#[47]⟩ : ByteArray) = bs [47] from rfl, bs_app, bs_app]; simp)
     rw [hP] at hz1 ⊢
     rw [hQ] at hz2 hc
     have hzp : P.size ≤ 59400000 := by omega
     have hzs : (P ++ ⟨#[47]⟩).size = P.size + 1 := by rw [ByteArray.size_append]; rfl
     have hzq : P.size + 1 + Q.size ≤ 59400000 := by omega
     have hzr : (P ++ ⟨#[47]⟩).size + Q.size ≤ 59400000 := by omega
     clear hx h1 h2 h3 hP hQ hz1 hz2
     go_wp2
     go_roundw
     case rel => exact ⟨k + 1, by go_num, by omega, by rw [HE.out], trivial⟩
     case measure => simp [intOf]; omega
   · obtain rfl : n = k := by omega
     have htk : L.take n = L := List.take_of_length_le (by have := HN.out; omega)
     rw [htk]
     by_cases h0 : L = []
     · have e0 : (bs (slashed L)).toList.isEmpty = true := by rw [bs_toList, h0]; rfl
       have HE := hide (show bs (joinF L) = ⟨#[47]⟩ by rw [joinF, if_pos h0]; rfl)
       clear h0 htk
       go_wp2
       go_ret
       rw [HE.out]
       exact ⟨rfl, rfl⟩
     · have e0 : (bs (slashed L)).toList.isEmpty = false := by
         rw [bs_toList]
         have := slashed_ne h0
         cases hs : slashed L with
         | nil => exact absurd hs this
         | cons _ _ => rfl
       have HE := hide (show bs (joinF L) = bs (slashed L) by rw [joinF, if_neg h0])
       obtain ⟨P, hP⟩ : ∃ P, bs (slashed L) = P := ⟨_, rfl⟩
       rw [hP] at e0 HE ⊢
       clear h0 htk hP
       go_wp2
       go_ret
       rw [HE.out]
       exact ⟨rfl, rfl⟩
theorem rabs_any (cwd p : T) (w : World) (h1 : cwd.length ≤ 6600000) (h2 : p.length ≤ 6600000) :
   Calls Tryz.prog 99 #[.string (bs cwd), .string (bs p)] w (AbsPost (absF cwd p) w) := by
 have HC0 := hide (fun W => rat0_any cwd 0 W (by omega))
 have HP0 := hide (fun W => rat0_any p 0 W (by omega))
 have HPA := hide (fun W => rparts_any cwd p W h1 h2)
 have g1 := ixb_ge 0 cwd
 have g2 := ixb_ge 0 p
 have m1 := ixb_mem 0 cwd
 have m2 := ixb_mem 0 p
 obtain ⟨ic, hic⟩ : ∃ i, Lib.indexByte cwd 0 = i := ⟨_, rfl⟩
 obtain ⟨ip, hip⟩ : ∃ i, Lib.indexByte p 0 = i := ⟨_, rfl⟩
 rw [hic] at HC0 m1 g1
 rw [hip] at HP0 m2 g2
 have HM1 := hide m1
 have HM2 := hide m2
 clear hic hip m1 m2
 by_cases c1 : p = []
 · subst c1
   have hem : (bs ([] : T)).toList.isEmpty = true := by rw [bs_toList]; rfl
   have HR := hide (show absF cwd [] = ([], 1) from if_pos (.inl rfl))
   go_enter Tryz.func99, Tryz.ntmps99
   go_wp2
   go_ret2
   unfold AbsPost
   rw [HR.out]
   exact ⟨rfl, Below.refl _ _⟩
 have hem : (bs p).toList.isEmpty = false := by rw [bs_toList]; cases p; exact absurd rfl c1; rfl
 by_cases c3 : 0 ≤ ip
 · have HR := hide (show absF cwd p = ([], 1) from if_pos (.inr (.inr (HM2.out.1 c3))))
   go_enter Tryz.func99, Tryz.ntmps99
   go_wp2_with fail
   refine (HP0.out _).mono ?_
   rintro e w' ⟨rfl, rfl⟩
   go_wp2
   go_ret2
   unfold AbsPost
   rw [HR.out]
   exact ⟨rfl, Below.refl _ _⟩
 have d3 : decide (0 ≤ ip) = false := by simp; omega
 by_cases c2 : 0 ≤ ic
 · have d2 : decide (0 ≤ ic) = true := by simp; omega
   have HR := hide (show absF cwd p = ([], 1) from if_pos (.inr (.inl (HM1.out.1 c2))))
   clear c2 c3
   go_enter Tryz.func99, Tryz.ntmps99
   go_wp2_with fail
   refine (HP0.out _).mono ?_
   rintro e w' ⟨rfl, rfl⟩
   go_wp2_with fail
   refine (HC0.out _).mono ?_
   rintro e w' ⟨rfl, rfl⟩
   go_wp2
   go_ret2
   unfold AbsPost
   rw [HR.out]
   exact ⟨rfl, Below.refl _ _⟩
 have d2 : decide (0 ≤ ic) = false := by simp; omega
 have hR : absF cwd p = if longF (partsF cwd p) = false ∧ (partsF cwd p).length ≤ 20 ∧ (joinF (partsF cwd p)).length ≤ 200 then (joinF (partsF cwd p), 0) else ([], 3) := by
   unfold absF
   rw [if_neg (by rintro (h | h | h); exact c1 h; exact c2 (HM1.out.2 h); exact c3 (HM2.out.2 h))]
 have hpl := partsF_len cwd p
 have hjl := joinF_len cwd p
 obtain ⟨L, hL⟩ : ∃ L, partsF cwd p = L := ⟨_, rfl⟩
 rw [hL] at hR HPA hpl hjl
 have HR := hide hR
 have HJ := hide hjl
 clear c1 c2 c3 hL hR
 go_enter Tryz.func99, Tryz.ntmps99
 go_wp2_with fail
 refine (HP0.out _).mono ?_
 rintro e w' ⟨rfl, rfl⟩
 go_wp2_with fail
 refine (HC0.out _).mono ?_
 rintro e w' ⟨rfl, rfl⟩
 go_wp2_with fail
 refine (HPA.out w).mono ?_
 rintro e w1 ⟨⟨v, rfl, ho⟩, hb1⟩
 obtain ⟨A, c, rfl, hc, hsr, _⟩ := OwnS.slice ho
 have HA := hide hsr
 have HB1 := hide hb1
 have hsl : (slashed L).length ≤ 59400000 := by
   have := hjl.1
   unfold joinF at this
   split at this
   · rename_i h; rw [h]; simp [slashed]
   · omega
 have HWR := hide (rwrite_any A c L w1 hsr hsl (by omega))
 rw [List.length_map] at hc ⊢
 obtain ⟨n, hn⟩ : ∃ n, L.length = n := ⟨_, rfl⟩
 rw [hn] at hc HWR hpl ⊢
 have HN := hide hn
 have hni : (n : Int) ≤ 59400000 := by omega
 clear ho hb1 hsr hjl hsl hn
 go_wp2_with fail
 go_loopw [7] (fun v7 wr => ∃ k : Nat, v7 = .int .i64 k ∧ k ≤ n ∧ Hid (longF (L.take k) = false) ∧ w1 = wr) (fun v7 _ => n - (intOf v7).toNat)
 case atStart => exact ⟨0, rfl, by omega, rfl, rfl⟩
 case round =>
   obtain ⟨k, rfl, hk, HLG, rfl⟩ := hrel
   by_cases hlt : k < n
   · obtain ⟨x, hx⟩ : ∃ x, L[k]? = some x := ⟨L[k]'(by have := HN.out; omega), gE _⟩
     obtain ⟨g, o, rfl, hg, hcx⟩ := HA.out k (bs x) (by simp [hx])
     have b1 : (k : Int) < (n : Int) := by omega
     have HX := hide hx
     have hzx := bs_size x
     obtain ⟨xn, hxn⟩ : ∃ m, x.length = m := ⟨_, rfl⟩
     rw [hxn] at hzx
     have hxl := HJ.out.2 x (List.mem_of_getElem? hx)
     rw [hxn] at hxl
     have hxi : (xn : Int) ≤ 59400000 := by omega
     have HXN := hide hxn
     clear hx hxn
     by_cases c6 : 60 < xn
     · have d6 : decide ((60 : Int) < (xn : Int)) = true := by simp; omega
       have d6' : decide (60 < xn) = true := by simp; omega
       have HE := hide (show absF cwd p = ([], 3) by
         rw [HR.out, if_neg]
         rintro ⟨h, _⟩
         have := (longF_iff L).1 h x (List.mem_of_getElem? HX.out)
         have := HXN.out
         omega)
       clear c6
       go_wp2
       go_ret2
       unfold AbsPost
       rw [HE.out]
       exact ⟨rfl, HB1.out⟩
     · have d6 : decide ((60 : Int) < (xn : Int)) = false := by simp; omega
       have d6' : decide (60 < xn) = false := by simp; omega
       have HL2 := hide (show longF (L.take (k + 1)) = false by
         rw [longF_iff]
         intro s hs
         rw [List.take_add_one, HX.out] at hs
         rcases List.mem_append.1 hs with h | h
         · exact (longF_iff _).1 HLG.out s h
         · simp at h
           rw [h, HXN.out]; omega)
       clear c6
       go_wp2
       go_roundw
       case rel => exact ⟨k + 1, by go_num, by omega, HL2.out, trivial⟩
       case measure => simp [intOf]; omega
   · obtain rfl : n = k := by omega
     have HLL := hide (show longF L = false by
       have := HLG.out
       rwa [List.take_of_length_le (by have := HN.out; omega)] at this)
     obtain ⟨J, hJ⟩ : ∃ J, joinF L = J := ⟨_, rfl⟩
     rw [hJ] at HWR
     have hjs := HJ.out.1
     rw [hJ] at hjs
     have hzj := bs_size J
     obtain ⟨m, hm⟩ : ∃ m, J.length = m := ⟨_, rfl⟩
     rw [hm] at hzj hjs
     have HJM := hide (And.intro hJ hm)
     have hmi : (m : Int) ≤ 59400000 := by omega
     have hnn : ¬ (n : Int) < (n : Int) := by omega
     clear hJ hm
     by_cases c7 : 20 < n
     · have d7 : decide ((20 : Int) < (n : Int)) = true := by simp; omega
       have d7' : decide (20 < n) = true := by simp; omega
       have HE := hide (show absF cwd p = ([], 3) by rw [HR.out, if_neg (by rintro ⟨_, h, _⟩; have := HN.out; omega)])
       clear c7
       go_wp2_with fail
       refine HWR.out.mono ?_
       rintro e w' ⟨rfl, rfl⟩
       go_wp2
       go_ret2
       unfold AbsPost
       rw [HE.out]
       exact ⟨rfl, HB1.out⟩
     have d7 : decide ((20 : Int) < (n : Int)) = false := by simp; omega
     have d7' : decide (20 < n) = false := by simp; omega
     by_cases c8 : 200 < m
     · have d8 : decide ((200 : Int) < (m : Int)) = true := by simp; omega
       have d8' : decide (200 < m) = true := by simp; omega
       have HE := hide (show absF cwd p = ([], 3) by rw [HR.out, if_neg (by rintro ⟨_, _, h⟩; rw [HJM.out.1, HJM.out.2] at h; omega)])
       clear c7 c8
       go_wp2_with fail
       refine HWR.out.mono ?_
       rintro e w' ⟨rfl, rfl⟩
       go_wp2
       go_ret2
       unfold AbsPost
       rw [HE.out]
       exact ⟨rfl, HB1.out⟩
     have d8 : decide ((200 : Int) < (m : Int)) = false := by simp; omega
     have d8' : decide (200 < m) = false := by simp; omega
     have HE := hide (show absF cwd p = (J, 0) by rw [HR.out, if_pos ⟨HLL.out, by have := HN.out; omega, by rw [HJM.out.1, HJM.out.2]; omega⟩, HJM.out.1])
     clear c7 c8
     go_wp2_with fail
     refine HWR.out.mono ?_
     rintro e w' ⟨rfl, rfl⟩
     go_wp2
     go_ret2
     unfold AbsPost
     rw [HE.out]
     exact ⟨rfl, HB1.out⟩
end
section
open Go.RowKit Go.Deep Ln Pth
attribute [local go_sem] bt_eq
def dirF (p : T) : T := joinF (partsF [47] p).dropLast
def baseF (p : T) : T := ((partsF [47] p).getLast?).getD []
theorem slashed_le (cwd p : T) (k : Nat) : (slashed ((partsF cwd p).take k)).length ≤ cwd.length + p.length + 3 := by
 have h1 := (joinF_len cwd p).1
 have h2 := slashed_take_len (partsF cwd p) k
 unfold joinF at h1
 split at h1
 · rename_i h
   rw [h] at h2 ⊢
   simp [slashed] at h2 ⊢
 · omega
theorem rdir_any (p : T) (w : World) (h2 : p.length ≤ 100000) :
   Calls Tryz.prog 129 #[.string (bs p)] w fun e w' => e = .returned (.string (bs (dirF p))) ∧ Below w.heap.size w w' := by
 have HPA := hide (rparts_any [47] p w (by simp) (by omega))
 rw [show bs [47] = ⟨#[47]⟩ from rfl] at HPA
 have hpl := partsF_len [47] p
 have hsl := fun k => slashed_le [47] p k
 have hD : dirF p = joinF (partsF [47] p).dropLast := rfl
 obtain ⟨L, hL⟩ : ∃ L, partsF [47] p = L := ⟨_, rfl⟩
 rw [hL] at HPA hpl hD
 simp only [hL] at hsl
 have HD := hide hD
 have HSL := hide hsl
 clear hL hD hsl
 go_enter Tryz.func129, Tryz.ntmps129
 go_wp2_with fail
 refine HPA.out.mono ?_
 rintro e w1 ⟨⟨v, rfl, ho⟩, hb1⟩
 obtain ⟨A, c, rfl, hc, hsr, _⟩ := OwnS.slice ho
 have HA := hide hsr
 have HB1 := hide hb1
 rw [List.length_map] at hc ⊢
 have hpl2 : L.length ≤ 200000 := by simp at hpl; omega
 obtain ⟨n, hn⟩ : ∃ n, L.length = n := ⟨_, rfl⟩
 rw [hn] at hc hpl2 ⊢
 have HN := hide hn
 clear ho hb1 hsr hn hpl
 by_cases h0 : n = 0
 · subst h0
   have HE := hide (show dirF p = joinF L by rw [HD.out, List.eq_nil_of_length_eq_zero HN.out]; rfl)
   have hwr := rwrite_any A c L w1 HA.out (by have := HSL.out L.length; rw [List.take_length] at this; simp at this; omega) (by have := HN.out; omega)
   rw [HN.out] at hwr
   have HWR := hide hwr
   clear hwr
   go_wp2_with fail
   refine HWR.out.mono ?_
   rintro e w' ⟨rfl, rfl⟩
   go_wp2
   go_ret
   rw [HE.out]
   exact ⟨rfl, HB1.out⟩
 · obtain ⟨m, rfl⟩ : ∃ m, n = m + 1 := ⟨n - 1, by omega⟩
   have hmi : (m : Int) ≤ 200000 := by omega
   have hci : (m : Int) ≤ (c : Int) := by omega
   have hwr1 : IntKind.i64.wrap ((m : Int) + 1 - 1) = (m : Int) := by rw [show (m : Int) + 1 - 1 = (m : Int) by omega]; exact IntWalk.i64_in _ (by omega)
   have hwr2 : IntKind.i64.wrap (m : Int) = (m : Int) := IntWalk.i64_in _ (by omega)
   have hdl : L.dropLast = L.take m := by rw [List.dropLast_eq_take, HN.out]; rfl
   have hwr := rwrite_any A c L.dropLast w1 (by rw [hdl, List.map_take]; exact HA.out.take m) (by rw [hdl]; have := HSL.out m; simp at this; omega) (by rw [List.length_dropLast, HN.out]; omega)
   rw [show L.dropLast.length = m by rw [List.length_dropLast, HN.out]; rfl] at hwr
   have HWR := hide hwr
   have d0 : decide ((0 : Int) < (m : Int) + 1) = true := by simp <;> omega
   clear hwr hdl h0
   go_wp2_with fail
   refine HWR.out.mono ?_
   rintro e w' ⟨rfl, rfl⟩
   go_wp2
   go_ret
   rw [HD.out]
   exact ⟨rfl, HB1.out⟩
theorem rbase_any (p : T) (w : World) (h2 : p.length ≤ 100000) :
   Calls Tryz.prog 130 #[.string (bs p)] w fun e w' => e = .returned (.string (bs (baseF p))) ∧ Below w.heap.size w w' := by
 have HPA := hide (rparts_any [47] p w (by simp) (by omega))
 rw [show bs [47] = ⟨#[47]⟩ from rfl] at HPA
 have hpl := partsF_len [47] p
 have hD : baseF p = ((partsF [47] p).getLast?).getD [] := rfl
 obtain ⟨L, hL⟩ : ∃ L, partsF [47] p = L := ⟨_, rfl⟩
 rw [hL] at HPA hpl hD
 have HD := hide hD
 clear hL hD
 go_enter Tryz.func130, Tryz.ntmps130
 go_wp2_with fail
 refine HPA.out.mono ?_
 rintro e w1 ⟨⟨v, rfl, ho⟩, hb1⟩
 obtain ⟨A, c, rfl, hc, hsr, _⟩ := OwnS.slice ho
 have HA := hide hsr
 have HB1 := hide hb1
 rw [List.length_map] at hc ⊢
 have hpl2 : L.length ≤ 200000 := by simp at hpl; omega
 obtain ⟨n, hn⟩ : ∃ n, L.length = n := ⟨_, rfl⟩
 rw [hn] at hc hpl2 ⊢
 have HN := hide hn
 clear ho hb1 hsr hn hpl
 by_cases h0 : n = 0
 · subst h0
   have HE := hide (show bs (baseF p) = ⟨#[]⟩ by rw [HD.out, List.eq_nil_of_length_eq_zero HN.out]; rfl)
   go_wp2
   go_ret
   rw [HE.out]
   exact ⟨rfl, HB1.out⟩
 · obtain ⟨m, rfl⟩ : ∃ m, n = m + 1 := ⟨n - 1, by omega⟩
   have hmi : (m : Int) ≤ 200000 := by omega
   have hwr1 : IntKind.i64.wrap ((m : Int) + 1 - 1) = (m : Int) := by rw [show (m : Int) + 1 - 1 = (m : Int) by omega]; exact IntWalk.i64_in _ (by omega)
   have hwr2 : IntKind.i64.wrap (m : Int) = (m : Int) := IntWalk.i64_in _ (by omega)
   obtain ⟨x, hx⟩ : ∃ x, L[m]? = some x := ⟨L[m]'(by have := HN.out; omega), gE _⟩
   obtain ⟨g, o, rfl, hg, hcx⟩ := HA.out m (bs x) (by simp [hx])
   have HE := hide (show baseF p = x by rw [HD.out, List.getLast?_eq_getElem?, HN.out]; simp [hx])
   have d0 : (((m : Int) + 1) == 0) = false := by simp <;> omega
   have hidx0 : (0 : Int) ≤ (m : Int) := by omega
   have hidx1 : (m : Int) < (m : Int) + 1 := by omega
   clear hx h0
   go_wp2
   go_ret
   rw [HE.out]
   exact ⟨rfl, HB1.out⟩
theorem map_bs_inj {a b : List T} : a.map bs = b.map bs ↔ a = b := by
 constructor
 · intro h
   have := congrArg (List.map (fun s : ByteArray => s.data.toList)) h
   simpa [List.map_map, Function.comp_def, bs_list] using this
 · rintro rfl; rfl
theorem rwithin_any (p q : T) (w : World) (h1 : p.length ≤ 90000) (h2 : q.length ≤ 90000) :
   Calls Tryz.prog 101 #[.string (bs p), .string (bs q)] w fun e w' => e = .returned (.bool (withinF p q)) ∧ Below w.heap.size w w' := by
 have HPA := hide (rparts_any [47] p w (by simp) (by omega))
 have HQA := hide (fun W => rparts_any [47] q W (by simp) (by omega))
 rw [show bs [47] = ⟨#[47]⟩ from rfl] at HPA HQA
 have hpl := partsF_len [47] p
 have hql := partsF_len [47] q
 have hD : withinF p q = decide ((partsF [47] q).take (partsF [47] p).length = partsF [47] p) := rfl
 obtain ⟨L, hL⟩ : ∃ L, partsF [47] p = L := ⟨_, rfl⟩
 obtain ⟨M, hM⟩ : ∃ L, partsF [47] q = L := ⟨_, rfl⟩
 rw [hL] at HPA hpl hD
 rw [hM] at HQA hql hD
 have HD := hide hD
 clear hL hM hD
 go_enter Tryz.func101, Tryz.ntmps101
 go_wp2_with fail
 refine HPA.out.mono ?_
 rintro e w1 ⟨⟨v, rfl, ho⟩, hb1⟩
 obtain ⟨A, c, rfl, hc, hsr, _⟩ := OwnS.slice ho
 have HA := hide hsr
 have HB1 := hide hb1
 clear ho hb1 hsr
 go_wp2_with fail
 refine (HQA.out w1).mono ?_
 rintro e w2 ⟨⟨v, rfl, ho⟩, hb2⟩
 obtain ⟨B, d, rfl, hd, hsr, _⟩ := OwnS.slice ho
 have HA2 := hide (HA.out.below hb2)
 have HB2 := hide (below_up HB1.out hb2 HB1.out.size)
 have HM2 := hide hsr
 clear ho hb2 hsr
 rw [List.length_map] at hc hd ⊢
 (try rw [List.length_map])
 have hpl2 : L.length ≤ 100000 := by simp at hpl; omega
 have hql2 : M.length ≤ 100000 := by simp at hql; omega
 obtain ⟨n, hn⟩ : ∃ n, L.length = n := ⟨_, rfl⟩
 obtain ⟨m, hm⟩ : ∃ n, M.length = n := ⟨_, rfl⟩
 have HN := hide hn
 have HMM := hide hm
 rw [hn] at hc hpl2 ⊢
 rw [hm] at hd hql2 ⊢
 clear hn hm hpl hql
 by_cases h0 : n ≤ m
 · have d0 : decide ((n : Int) ≤ (m : Int)) = true := by simp; omega
   have d0' : decide (n ≤ m) = true := by simp; omega
   have hni : (n : Int) ≤ (d : Int) := by omega
   have hni2 : (n : Int) ≤ 100000 := by omega
   have hnn : (0 : Int) ≤ (n : Int) := by omega
   have hwr2 : IntKind.i64.wrap (n : Int) = (n : Int) := IntWalk.i64_in _ (by omega)
   have hsm := same_any A B c d (L.map bs) ((M.take n).map bs) w2 HA2.out (by rw [List.map_take]; exact HM2.out.take n) (by rw [List.length_map, HN.out]; exact hpl2)
   rw [show ((M.take n).map bs).length = n by rw [List.length_map, List.length_take, HMM.out]; omega, show (L.map bs).length = n by rw [List.length_map, HN.out], show decide (L.map bs = (M.take n).map bs) = withinF p q by
     rw [HD.out, HN.out]
     exact decide_eq_decide.2 (map_bs_inj.trans eq_comm)] at hsm
   have HSM := hide hsm
   clear hsm h0
   go_wp2_with fail
   refine HSM.out.mono ?_
   rintro e w3 ⟨rfl, hdr⟩
   have HB3 := hide (show Below w.heap.size w w3 by
     obtain ⟨nd, rfl⟩ := hdr
     exact below_drewN HB2.out nd)
   clear hdr
   go_wp2
   go_ret
   exact ⟨rfl, HB3.out⟩
 · have d0 : decide ((n : Int) ≤ (m : Int)) = false := by simp; omega
   have d0' : decide (n ≤ m) = false := by simp; omega
   have HE := hide (show withinF p q = false by
     rw [HD.out, decide_eq_false]
     intro h
     have := congrArg List.length h
     rw [List.length_take, HN.out, HMM.out] at this
     omega)
   clear h0
   go_wp2
   go_ret
   rw [HE.out]
   exact ⟨rfl, HB2.out⟩
end
end Go.Proofs.YtaajofojbhdgaaaGreatDoor
