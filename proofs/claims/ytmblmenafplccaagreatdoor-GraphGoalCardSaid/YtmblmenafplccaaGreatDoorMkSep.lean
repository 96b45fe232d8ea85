/- A makefile that is being made, in blocks of its own: its rules' row grows, the rows that its rules name never change. -/
import Derived.Test.YtmblmenafplccaaGreatDoorFindLawA
namespace Go.Proofs.YtmblmenafplccaaGreatDoor
open Go.RowKit Go.Deep Go.Maps Ln Pth Vf

/-- a part is opened, changed, and put back -/
theorem InvN.opn {A X : AsnN} {B : Nat} {w0 w : World} (h : InvN (sep A X) B w0 w) (hX : FrN X) (hB : B ≤ w0.heap.size) : ∃ T N, A T N w ∧ OkTN T N w ∧ (∀ k, T k → B ≤ k) ∧
    ∀ (A' : AsnN) (w' : World) (T' N' : Nat → Prop), A' T' N' w' → GrowN w w' T N T' N' → Kp w w' T → InvN (sep A' X) B w0 w' := by
  obtain ⟨T, N, ⟨T1, T2, a, b, s1, s2, d⟩, ok, ht, hb0⟩ := h
  refine ⟨T1, N, a, ⟨fun k hk => ok.1 k (s1 k hk), ok.2⟩, fun k hk => ht k (s1 k hk), ?_⟩
  rintro A' w' T1' N' q ⟨g1, g2, g3, g4, g5⟩ hk
  refine ⟨fun k => T1' k ∨ T2 k, N', ⟨T1', T2, q, hX _ _ _ _ _ b (fun k h2 => ?_) g2 hk.size, fun k h => .inl h, fun k h => .inr h, fun k h1 h2 => ?_⟩, ⟨fun k h1 => ?_, g5⟩, fun k h1 => ?_, hk.below hb0 hB (fun k h1 => ht k (s1 k h1))⟩
  · rcases h2 with h2 | h2
    · exact hk.block k (ok.1 k (s2 k h2)).1 (fun h1 => d k h1 h2)
    · exact hk.block k (ok.2 k h2) (fun h1 => (ok.1 k (s1 k h1)).2 h2)
  · rcases g1 k h1 with h | h
    · exact d k h h2
    · have := (ok.1 k (s2 k h2)).1; omega
  · rcases h1 with h1 | h2
    · exact g4 k h1
    · refine ⟨Nat.lt_of_lt_of_le (ok.1 k (s2 k h2)).1 hk.size, fun h => ?_⟩
      rcases g3 k h with h | h
      · exact (ok.1 k (s2 k h2)).2 h
      · have := (ok.1 k (s2 k h2)).1; omega
  · rcases h1 with h1 | h2
    · rcases g1 k h1 with h | h
      · exact ht k (s1 k h)
      · have := hb0.size; omega
    · exact ht k (s2 k h2)
/-- a row of texts in blocks that never change -/
def SN (N : Nat → Prop) (x : SRow) : Prop := ∀ a, x.1 = some a → x.2.2 ≠ [] → N a.block
structure RlN (N : Nat → Prop) (r : Rl) : Prop where
  tg : SN N r.tg
  nd : SN N r.nd
  rc : SN N r.rc
theorem RlN.mono {N N' : Nat → Prop} {r : Rl} (h : RlN N r) (hn : ∀ k, N k → N' k) : RlN N' r := ⟨fun a e h1 => hn _ (h.tg a e h1), fun a e h1 => hn _ (h.nd a e h1), fun a e h1 => hn _ (h.rc a e h1)⟩
theorem SR.ofN {w w' : World} {A : Option Addr} {L : List ByteArray} (h : SR w A L) (hs : w.heap.size ≤ w'.heap.size) (hb : ∀ a, A = some a → L ≠ [] → w'.heap[a.block]? = w.heap[a.block]?) : SR w' A L := fun k s hk => by
  obtain ⟨g, o, e, hg, hc⟩ := h k s hk
  exact ⟨g, o, e, Nat.lt_of_lt_of_le hg hs, (World.cell?_of_block (show w'.heap[(Addr.mk g (o + k) none).block]? = w.heap[(Addr.mk g (o + k) none).block]? from hb ⟨g, o, none⟩ e (by rintro rfl; simp at hk))).trans hc⟩
theorem RlOk.ofN {w w' : World} {N : Nat → Prop} {r : Rl} (h : RlOk w r) (hn : RlN N r) (hs : w.heap.size ≤ w'.heap.size) (hb : ∀ k, N k → w'.heap[k]? = w.heap[k]?) : RlOk w' r :=
  ⟨h.tg.ofN hs (fun a e h1 => hb _ (hn.tg a e h1)), h.nd.ofN hs (fun a e h1 => hb _ (hn.nd a e h1)), h.rc.ofN hs (fun a e h1 => hb _ (hn.rc a e h1)), h.t1, h.n1, h.r1⟩
theorem OwnG.of {α : Type} {enc : α → List Value} {n : Nat} {E : TypeId} {w w' : World} {base : Nat} {v : Value} {L : List α} (h : OwnG enc n E w base v L) (hb : ∀ k, v.ownBlock = some k → w'.heap[k]? = w.heap[k]?) : OwnG enc n E w' base v L := by
  obtain ⟨h1, h2⟩ := h
  refine ⟨h1, ?_⟩
  rcases h2 with h | ⟨g, cap, cur, rfl, hg, hh, r⟩
  · exact .inl h
  · exact .inr ⟨g, cap, cur, rfl, hg, (hb g rfl).trans hh, r⟩
/-- a makefile that is being made -/
def MKA (B gm : Nat) (L : List Rl) : AsnN := fun T N w => ∃ vr, T gm ∧ w.heap[gm]? = some (.cells #[.slice none 0 0, vr] 26) ∧ OwnG encRl 3 30 w 0 vr L ∧ (∀ k, vr.ownBlock = some k → T k ∧ k ≠ gm) ∧ (∀ k, k < B → N k) ∧ ∀ r ∈ L, RlOk w r ∧ RlN N r
theorem MKA.fr (B gm : Nat) (L : List Rl) : FrN (MKA B gm L) := by
  rintro T N N' w w' ⟨vr, h1, h2, h3, h4, h5, h6⟩ hb hn hs
  exact ⟨vr, h1, (hb gm (.inl h1)).trans h2, h3.of (fun k e => hb k (.inl (h4 k e).1)), h4, fun k hk => hn k (h5 k hk), fun r hr => ⟨(h6 r hr).1.ofN (h6 r hr).2 hs (fun k hk => hb k (.inr hk)), (h6 r hr).2.mono hn⟩⟩
def rowRl : RowT Tryz.prog 24 30 3 := { z := .agg #[.slice none 0 0, .slice none 0 0, .slice none 0 0], bytes := 72, und := Tryz.underlying24, info := by kernel_rfl, zlen := rfl, pos := by omega, sb := by omega }
theorem encRl_one (r : Rl) : ∀ u ∈ encRl r, u.oneCell' = true := by
  intro u hu
  simp only [encRl, sv, List.mem_cons, List.not_mem_nil, or_false] at hu
  rcases hu with rfl | rfl | rfl <;> rfl
/-- the makefile, newly made -/
theorem MKA.new {B : Nat} {w0 w : World} (hb : Below B w0 w) (hB : B ≤ w.heap.size) : InvN (MKA B w.heap.size []) B w0 (w.alloc (.cells #[.slice none 0 0, .slice none 0 0] 26)) :=
  ⟨fun k => k = w.heap.size, fun k => k < B, ⟨.slice none 0 0, rfl, heapNew _ _, OwnG.nil _ _, fun k e => (by simp [Value.ownBlock] at e), fun k hk => hk, fun r hr => (by cases hr)⟩, ⟨fun k hk => (by subst hk; exact ⟨by simp, by omega⟩), fun k hk => (by simp; omega)⟩, fun k hk => (by subst hk; exact hB), hb.alloc hB _⟩
/-- a rule is put behind the others -/
theorem MKA.app {B gm : Nat} {L : List Rl} {T N : Nat → Prop} {wr W : World} (h : MKA B gm L T N wr) (ok : OkTN T N wr) (hb : Below wr.heap.size wr W) (r : Rl) (hr : RlOk W r) (hf : RlN (fun k => N k ∨ (wr.heap.size ≤ k ∧ k < W.heap.size)) r) (hl : L.length ≤ 900000) :
    ∃ (A : Option Addr) (c : Nat) (v' : Value) (W' : World), wr.heap[gm]? = some (.cells #[.slice none 0 0, .slice A L.length c] 26) ∧ W.heap[gm]? = some (.cells #[.slice none 0 0, .slice A L.length c] 26) ∧
      (Builtin.append_ #[24, 24] 24 #[.slice A L.length c, .slice (some ⟨W.heap.size, 0, none⟩) 1 1]).run Tryz.prog (W.alloc (.cells #[sv r.tg, sv r.nd, sv r.rc] 30)) = .ok v' W' ∧
      (∃ A' c', v' = .slice A' (L.length + 1) c') ∧
      W'.heap[gm]? = some (.cells #[.slice none 0 0, .slice A L.length c] 26) ∧
      ∃ T' N', MKA B gm (L ++ [r]) T' N' (W'.setCell ⟨gm, 1, none⟩ v') ∧ GrowN wr (W'.setCell ⟨gm, 1, none⟩ v') T N T' N' ∧ Kp wr (W'.setCell ⟨gm, 1, none⟩ v') T := by
  obtain ⟨vr, h1, h2, h3, h4, h5, h6⟩ := h
  obtain ⟨A, c, rfl, _, _, _⟩ := h3.slice encRl_len
  have hba := hb.alloc hb.size (.cells #[sv r.tg, sv r.nd, sv r.rc] 30)
  have hgl := (ok.1 gm h1).1
  have h3a := h3.of (w' := W.alloc (.cells #[sv r.tg, sv r.nd, sv r.rc] 30)) (fun k e => hba.block k (ok.1 k (h4 k e).1).1)
  obtain ⟨v', W', hrun, ho, hg, hv⟩ := run_appG rowRl encRl_len encRl_one (c := 1) h3a (rg_new (enc := encRl) (n := 3) W r 30) (Nat.zero_le _) (by simp; omega)
  have hgm := (hba.block gm hgl).trans h2
  have hgne : some gm ≠ (Value.slice A L.length c).ownBlock := fun e => (h4 gm e.symm).2 rfl
  have hsz := hba.size
  have hgm' := (hg.block gm (by omega) hgne).trans hgm
  have hT : ∀ k, (Value.slice A L.length c).ownBlock = some k → T k := fun k e => (h4 k e).1
  have hk1 : Kp wr W' T := (Kp.of_below hba T).trans ⟨hg.os, hg.tape, hg.output, hg.size, fun k hk hn => hg.block k hk (fun e => hn (.inl (hT k e.symm)))⟩
  have hks := kp_set (w := W') (g := gm) (j := 1) (v := v')
  have hk : Kp wr (W'.setCell ⟨gm, 1, none⟩ v') T := hk1.trans (hks.mono fun k e => .inl (e ▸ h1))
  have hvne : v'.ownBlock ≠ some gm := by
    rcases hv with e | e
    · rw [e]; exact fun e => hgne e.symm
    · rw [e]; intro h2; injection h2 with h2; have := hb.size; simp at h2; omega
  obtain ⟨A', c', hv', _, _, _⟩ := ho.slice encRl_len
  refine ⟨A, c, v', W', h2, (hb.block gm hgl).trans h2, hrun, ⟨A', c', by rw [hv']; simp⟩, hgm', fun k => T k ∨ v'.ownBlock = some k, fun k => N k ∨ (wr.heap.size ≤ k ∧ k < W.heap.size), ?_, ?_, hk⟩
  · refine ⟨v', .inl h1, ?_, ho.of (fun k e => hks.block k (World.ownsRow.lt ho k e).2 (fun e2 => hvne (by rw [e, e2]))), fun k e => ⟨.inr e, fun e2 => hvne (by rw [e, e2])⟩, fun k hk => .inl (h5 k hk), ?_⟩
    · rw [heapSet hgm']; rfl
    · have hWb : ∀ k, (N k ∨ (wr.heap.size ≤ k ∧ k < W.heap.size)) → (W'.setCell ⟨gm, 1, none⟩ v').heap[k]? = W.heap[k]? := by
        intro k hN
        have hkW : k < W.heap.size := by
          rcases hN with h | h
          · have := ok.2 k h; have := hb.size; omega
          · exact h.2
        have hnT : ¬ T k := by
          rcases hN with h | h
          · exact fun ht => (ok.1 k ht).2 h
          · exact fun ht => by have := (ok.1 k ht).1; omega
        have e1 : k ≠ gm := fun e => hnT (e ▸ h1)
        rw [hks.block k (by have := hg.size; simp at this; omega) e1, hg.block k (by simp; omega) (fun e => hnT (hT k e.symm)), Below.heap_alloc _ _ _ hkW]
      intro x hx
      rcases List.mem_append.1 hx with hx | hx
      · have := h6 x hx
        exact ⟨this.1.ofN this.2 hk.size (fun k hk2 => (hWb k (.inl hk2)).trans (hb.block k (ok.2 k hk2))), this.2.mono fun k hk2 => .inl hk2⟩
      · obtain rfl := List.mem_singleton.1 hx
        refine ⟨hr.ofN hf (by have := hg.size; simp at this ⊢; omega) hWb, hf⟩
  · refine ⟨fun k h => ?_, fun k h => .inl h, fun k h => h.imp_right (·.1), ⟨fun k h => ?_, fun k h => ?_⟩⟩
    · rcases h with h | h
      · exact .inl h
      · rcases hv with e | e
        · exact .inl (hT k (e ▸ h))
        · rw [e] at h; injection h with h; exact .inr (by simp at h; have := hb.size; omega)
    · have hlt : k < (W'.setCell ⟨gm, 1, none⟩ v').heap.size := by
        rcases h with h | h
        · exact Nat.lt_of_lt_of_le (ok.1 k h).1 hk.size
        · have := (World.ownsRow.lt ho k h).2; simpa using this
      refine ⟨hlt, fun hN => ?_⟩
      rcases h with h | h
      · rcases hN with hN | hN
        · exact (ok.1 k h).2 hN
        · have := (ok.1 k h).1; omega
      · rcases hv with e | e
        · have ht := hT k (e ▸ h)
          rcases hN with hN | hN
          · exact (ok.1 k ht).2 hN
          · have := (ok.1 k ht).1; omega
        · rw [e] at h; injection h with h
          simp at h
          rcases hN with hN | hN
          · have := ok.2 k hN; have := hb.size; omega
          · omega
    · have h1 := hk.size
      have h2 := hg.size
      have h3 := hb.size
      simp at h2 ⊢
      rcases h with h | h
      · have := ok.2 k h; omega
      · omega
/-- a row of texts that grows, in a block of its own -/
def WantA (v : Value) (l : List ByteArray) : AsnN := fun T _ w => OwnS w 0 v l ∧ ∀ k, v.ownBlock = some k → T k
theorem WantA.fr (v : Value) (l : List ByteArray) : FrN (WantA v l) := by
  rintro T N N' w w' ⟨h1, h2⟩ hb _ _
  exact ⟨h1.of (fun k e => hb k (.inl (h2 k e))), h2⟩
theorem WantA.nil (T N : Nat → Prop) (w : World) : WantA (.slice none 0 0) [] T N w := ⟨OwnS.nil _ _, fun k e => (by simp [Value.ownBlock] at e)⟩
theorem WantA.app {v : Value} {l : List ByteArray} {T N : Nat → Prop} {w : World} (h : WantA v l T N w) (ok : OkTN T N w) (x : ByteArray) (hl : l.length ≤ 900000) :
    ∃ v' w', (Builtin.append_ #[28, 28] 28 #[v, .slice (some ⟨w.heap.size, 0, none⟩) 1 1]).run Tryz.prog (w.alloc (.cells #[.string x] 9)) = .ok v' w' ∧ ∃ T', WantA v' (l ++ [x]) T' N w' ∧ GrowN w w' T N T' N ∧ Kp w w' T := by
  obtain ⟨h1, h2⟩ := h
  obtain ⟨v4, w4, r4, o4, g4, b4⟩ := run_appS (c := 1) (OwnS.alloc h1 (.cells #[.string x] 9)) (sr_new w x) (Nat.zero_le _) (by simp; omega)
  have hsz := g4.size
  simp at hsz
  refine ⟨v4, w4, r4, fun k => T k ∨ v4.ownBlock = some k, ⟨o4, fun k e => .inr e⟩, ⟨fun k h => ?_, fun k h => h, fun k h => .inl h, ⟨fun k h => ?_, fun k h => by have := ok.2 k h; omega⟩⟩, (Kp.of_below ((Below.refl w.heap.size w).alloc (Nat.le_refl _) _) T).trans ⟨g4.os, g4.tape, g4.output, g4.size, fun k hk hn => g4.block k hk (fun e => hn (.inl (h2 k e.symm)))⟩⟩
  · rcases h with h | h
    · exact .inl h
    · rcases b4 with e | e
      · exact .inl (h2 k (e ▸ h))
      · rw [e] at h; injection h with h; exact .inr (by simp at h; omega)
  · rcases h with h | h
    · exact ⟨by have := (ok.1 k h).1; omega, (ok.1 k h).2⟩
    · refine ⟨(World.ownsRow.lt o4 k h).2, fun hN => ?_⟩
      rcases b4 with e | e
      · exact (ok.1 k (h2 k (e ▸ h))).2 hN
      · rw [e] at h; injection h with h
        have := ok.2 k hN
        simp at h
        omega
end Go.Proofs.YtmblmenafplccaaGreatDoor
