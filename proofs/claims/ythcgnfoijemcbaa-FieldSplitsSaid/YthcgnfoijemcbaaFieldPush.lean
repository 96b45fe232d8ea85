/- A part behind those that are gathered: append of a zero part, and the store of the part. -/
import Derived.Test.YthcgnfoijemcbaaFieldRep
namespace Go.Proofs.Ythcgnfoijemcbaa
open Go.RowKit Go.Deep
set_option linter.unusedSimpArgs false
set_option linter.unusedVariables false

theorem setCell_comm (W : World) (g i g' i' : Nat) (u v : Value) (h : g ≠ g') : (W.setCell ⟨g, i, none⟩ u).setCell ⟨g', i', none⟩ v = (W.setCell ⟨g', i', none⟩ v).setCell ⟨g, i, none⟩ u := by
  unfold World.setCell
  dsimp only
  congr 1
  apply Array.ext_getElem?
  intro k
  simp only [Array.getElem?_modify]
  by_cases h1 : g = k
  · have h2 : ¬ g' = k := fun e => h (h1.trans e.symm)
    simp [h1, h2]
  · by_cases h2 : g' = k
    · simp [h1, h2]
    · simp [h1, h2]
/-- a store into a row of the call's own -/
theorem ownsRow_store {w : World} {base : Nat} {e : TypeId} {n g len cap : Nat} {vals : List Value} (h : w.ownsRow base e n (.slice (some ⟨g, 0, none⟩) len cap) len vals) {i : Nat} (hi : i < len * n) (u : Value) :
    (∃ v, w.cell? ⟨g, i, none⟩ = some v) ∧ w.frozen? ⟨g, i, none⟩ = false ∧ (w.setCell ⟨g, i, none⟩ u).ownsRow base e n (.slice (some ⟨g, 0, none⟩) len cap) len (vals.set i u) := by
  obtain ⟨h1, h2⟩ := h
  rcases h2 with ⟨h2, _⟩ | ⟨g', cap', cur, e1, hb, hh, hc, hm, hs, ht⟩
  · cases h2
  injection e1 with e1 e2 e3
  injection e1 with e1
  injection e1 with e1
  subst e1 e3
  have hcur : i < cur.size := by
    rw [hs]
    exact Nat.lt_of_lt_of_le hi (Nat.mul_le_mul_right n hc)
  refine ⟨⟨cur[i], by simp [World.cell?, hh, hcur]⟩, by simp [World.frozen?, hh], by rw [List.length_set]; exact h1, .inr ⟨g, cap, cur.setIfInBounds i u, rfl, hb, ?_, hc, hm, by simpa using hs, ?_⟩⟩
  · simp [World.setCell, Array.getElem?_modify, hh]
  · rw [Array.toList_setIfInBounds, List.take_set, ht]
/-- a part stored at a place -/
def set6 (W : World) (g k : Nat) (x : Pt) : World := (((((W.setCell ⟨g, k, none⟩ (.int .i64 x.kind)).setCell ⟨g, k + 1, none⟩ (.string x.text)).setCell ⟨g, k + 2, none⟩ (.string x.name)).setCell ⟨g, k + 3, none⟩ (.string x.op)).setCell ⟨g, k + 4, none⟩ (.slice x.wA x.wn x.wc)).setCell ⟨g, k + 5, none⟩ (.bool x.q)
def Can6 (W : World) (g k : Nat) (x : Pt) : Prop :=
  ((∃ v, W.cell? ⟨g, k, none⟩ = some v) ∧ W.frozen? ⟨g, k, none⟩ = false) ∧
  ((∃ v, (W.setCell ⟨g, k, none⟩ (.int .i64 x.kind)).cell? ⟨g, k + 1, none⟩ = some v) ∧ (W.setCell ⟨g, k, none⟩ (.int .i64 x.kind)).frozen? ⟨g, k + 1, none⟩ = false) ∧
  ((∃ v, ((W.setCell ⟨g, k, none⟩ (.int .i64 x.kind)).setCell ⟨g, k + 1, none⟩ (.string x.text)).cell? ⟨g, k + 2, none⟩ = some v) ∧ ((W.setCell ⟨g, k, none⟩ (.int .i64 x.kind)).setCell ⟨g, k + 1, none⟩ (.string x.text)).frozen? ⟨g, k + 2, none⟩ = false) ∧
  ((∃ v, (((W.setCell ⟨g, k, none⟩ (.int .i64 x.kind)).setCell ⟨g, k + 1, none⟩ (.string x.text)).setCell ⟨g, k + 2, none⟩ (.string x.name)).cell? ⟨g, k + 3, none⟩ = some v) ∧ (((W.setCell ⟨g, k, none⟩ (.int .i64 x.kind)).setCell ⟨g, k + 1, none⟩ (.string x.text)).setCell ⟨g, k + 2, none⟩ (.string x.name)).frozen? ⟨g, k + 3, none⟩ = false) ∧
  ((∃ v, ((((W.setCell ⟨g, k, none⟩ (.int .i64 x.kind)).setCell ⟨g, k + 1, none⟩ (.string x.text)).setCell ⟨g, k + 2, none⟩ (.string x.name)).setCell ⟨g, k + 3, none⟩ (.string x.op)).cell? ⟨g, k + 4, none⟩ = some v) ∧ ((((W.setCell ⟨g, k, none⟩ (.int .i64 x.kind)).setCell ⟨g, k + 1, none⟩ (.string x.text)).setCell ⟨g, k + 2, none⟩ (.string x.name)).setCell ⟨g, k + 3, none⟩ (.string x.op)).frozen? ⟨g, k + 4, none⟩ = false) ∧
  ((∃ v, (((((W.setCell ⟨g, k, none⟩ (.int .i64 x.kind)).setCell ⟨g, k + 1, none⟩ (.string x.text)).setCell ⟨g, k + 2, none⟩ (.string x.name)).setCell ⟨g, k + 3, none⟩ (.string x.op)).setCell ⟨g, k + 4, none⟩ (.slice x.wA x.wn x.wc)).cell? ⟨g, k + 5, none⟩ = some v) ∧ (((((W.setCell ⟨g, k, none⟩ (.int .i64 x.kind)).setCell ⟨g, k + 1, none⟩ (.string x.text)).setCell ⟨g, k + 2, none⟩ (.string x.name)).setCell ⟨g, k + 3, none⟩ (.string x.op)).setCell ⟨g, k + 4, none⟩ (.slice x.wA x.wn x.wc)).frozen? ⟨g, k + 5, none⟩ = false)
theorem set_at {α : Type} {a b : List α} {k j : Nat} (h : a.length = k) (v : α) : (a ++ b).set (k + j) v = a ++ b.set j v := by
  rw [List.set_append, if_neg (by omega)]
  congr 2
  omega
theorem set6_ok {W : World} {base g n c : Nat} {L : List Pt} {y : Pt} (h : OwnG encPt 6 tyP W base (.slice (some ⟨g, 0, none⟩) (n + 1) c) (L ++ [y])) (hn : L.length = n) (x : Pt) :
    Can6 W g (n * 6) x ∧ OwnG encPt 6 tyP (set6 W g (n * 6) x) base (.slice (some ⟨g, 0, none⟩) (n + 1) c) (L ++ [x]) := by
  have hl : (L ++ [y]).length = n + 1 := by simp [hn]
  have hlx : (L ++ [x]).length = n + 1 := by simp [hn]
  unfold OwnG at h ⊢
  rw [hl] at h
  rw [hlx]
  have s0 := ownsRow_store h (i := n * 6) (by omega) (.int .i64 x.kind)
  have s1 := ownsRow_store s0.2.2 (i := n * 6 + 1) (by omega) (.string x.text)
  have s2 := ownsRow_store s1.2.2 (i := n * 6 + 2) (by omega) (.string x.name)
  have s3 := ownsRow_store s2.2.2 (i := n * 6 + 3) (by omega) (.string x.op)
  have s4 := ownsRow_store s3.2.2 (i := n * 6 + 4) (by omega) (.slice x.wA x.wn x.wc)
  have s5 := ownsRow_store s4.2.2 (i := n * 6 + 5) (by omega) (.bool x.q)
  refine ⟨⟨⟨s0.1, s0.2.1⟩, ⟨s1.1, s1.2.1⟩, ⟨s2.1, s2.2.1⟩, ⟨s3.1, s3.2.1⟩, ⟨s4.1, s4.2.1⟩, ⟨s5.1, s5.2.1⟩⟩, ?_⟩
  have hv : (valsG encPt L).length = n * 6 := by rw [valsG_len encPt_len, hn]
  have e : ((((((valsG encPt (L ++ [y])).set (n * 6) (.int .i64 x.kind)).set (n * 6 + 1) (.string x.text)).set (n * 6 + 2) (.string x.name)).set (n * 6 + 3) (.string x.op)).set (n * 6 + 4) (.slice x.wA x.wn x.wc)).set (n * 6 + 5) (.bool x.q) = valsG encPt (L ++ [x]) := by
    rw [valsG_app, valsG_app]
    have h0 := fun (b : List Value) (v : Value) => set_at (b := b) (j := 0) hv v
    simp only [Nat.add_zero] at h0
    rw [h0, set_at hv, set_at hv, set_at hv, set_at hv, set_at hv]
    rfl
  rw [← e]
  exact s5.2.2
theorem set6_kp (W : World) (g k : Nat) (x : Pt) : Kp W (set6 W g k x) (fun b => b = g) := by
  have t : ∀ {A B : World} {i : Nat} {v : Value}, Kp A B (fun b => b = g) → Kp A (B.setCell ⟨g, i, none⟩ v) (fun b => b = g) := fun h => h.trans (objKp.mono fun q e => .inl e)
  exact t (t (t (t (t objKp))))
theorem set6_comm (W : World) (g k : Nat) (x : Pt) (p : Nat) (V : Value) (h : g ≠ p) : set6 (W.setCell ⟨p, 0, none⟩ V) g k x = (set6 W g k x).setCell ⟨p, 0, none⟩ V := by
  unfold set6
  have c := fun (Z : World) i u => setCell_comm Z p 0 g i V u (fun e => h e.symm)
  rw [c, c, c, c, c, c]
theorem SpI.push {w0 w : World} {po pn : Nat} {out : List FR} {now : List Pt} {vo : Value} {A : Option Addr} {n c : Nat} (h : SpI w0 po pn out now vo (.slice A n c) w) (hl : now.length ≤ 1000000) (x : Pt) :
    ∃ g c' w4, (Builtin.append_ #[tyN, tyN] tyN #[.slice A n c, .slice (some ⟨w.heap.size, 0, none⟩) 1 1]).run Try.prog (w.alloc (.cells #[.int .i64 0, .string ⟨#[]⟩, .string ⟨#[]⟩, .string ⟨#[]⟩, .slice none 0 0, .bool false] tyP)) = .ok (.slice (some ⟨g, 0, none⟩) (n + 1) c') w4 ∧
      (w4.cell? ⟨pn, 0, none⟩ = some (.slice A n c) ∧ w4.frozen? ⟨pn, 0, none⟩ = false) ∧ Can6 w4 g (n * 6) x ∧
      ((set6 w4 g (n * 6) x).cell? ⟨pn, 0, none⟩ = some (.slice A n c) ∧ (set6 w4 g (n * 6) x).frozen? ⟨pn, 0, none⟩ = false) ∧
      Can6 (w4.setCell ⟨pn, 0, none⟩ (.slice (some ⟨g, 0, none⟩) (n + 1) c')) g (n * 6) x ∧
      set6 (w4.setCell ⟨pn, 0, none⟩ (.slice (some ⟨g, 0, none⟩) (n + 1) c')) g (n * 6) x = (set6 w4 g (n * 6) x).setCell ⟨pn, 0, none⟩ (.slice (some ⟨g, 0, none⟩) (n + 1) c') ∧
      (∀ b, b < w.heap.size → b ≠ pn → (Value.slice A n c).ownBlock ≠ some b → w4.heap[b]? = w.heap[b]? ∧ (set6 w4 g (n * 6) x).heap[b]? = w.heap[b]? ∧ (w4.setCell ⟨pn, 0, none⟩ (.slice (some ⟨g, 0, none⟩) (n + 1) c')).heap[b]? = w.heap[b]? ∧ ((set6 w4 g (n * 6) x).setCell ⟨pn, 0, none⟩ (.slice (some ⟨g, 0, none⟩) (n + 1) c')).heap[b]? = w.heap[b]?) ∧
      SpI w0 po pn out (now ++ [x]) vo (.slice (some ⟨g, 0, none⟩) (n + 1) c') ((set6 w4 g (n * 6) x).setCell ⟨pn, 0, none⟩ (.slice (some ⟨g, 0, none⟩) (n + 1) c')) := by
  obtain ⟨A1, c1, e, hc, hr, hb, _⟩ := h.on.slice encPt_len
  injection e with e1 e2 e3
  subst e1 e2 e3
  have hba := (Below.refl w.heap.size w).alloc (Nat.le_refl _) (.cells #[.int .i64 0, .string ⟨#[]⟩, .string ⟨#[]⟩, .string ⟨#[]⟩, .slice none 0 0, .bool false] tyP)
  have h3 := h.step hba
  have hx : RG encPt 6 (w.alloc (.cells #[.int .i64 0, .string ⟨#[]⟩, .string ⟨#[]⟩, .string ⟨#[]⟩, .slice none 0 0, .bool false] tyP)) (some ⟨w.heap.size, 0, none⟩) [pt0] := rg_new (enc := encPt) (n := 6) w pt0 tyP
  obtain ⟨v4, w4, hrun, ho, hg, hv⟩ := run_appG rowPt encPt_len encPt_one (c := 1) h3.on hx h3.below.size (by simp; omega)
  obtain ⟨A', c', e9, _, _, hb9, hg9⟩ := ho.slice encPt_len
  have hlen : (now ++ [pt0]).length = now.length + 1 := by simp
  rw [hlen] at e9
  subst e9
  have hsz : (w.alloc (.cells #[.int .i64 0, .string ⟨#[]⟩, .string ⟨#[]⟩, .string ⟨#[]⟩, .slice none 0 0, .bool false] tyP)).heap.size = w.heap.size + 1 := by simp
  obtain ⟨g, rfl⟩ : ∃ g, A' = some ⟨g, 0, none⟩ := by
    rcases ho.2 with ⟨e, _⟩ | ⟨g, cap, cur, e, _⟩
    · injection e with e1 e2 e3; simp at e2
    · injection e with e1 e2 e3; exact ⟨g, e1⟩
  have hpn := (Array.getElem?_eq_some_iff.1 h3.hn).1
  have hpn0 := (Array.getElem?_eq_some_iff.1 h.hn).1
  have hpo0 := (Array.getElem?_eq_some_iff.1 h.ho).1
  have hnl : ∀ k, (Value.slice A now.length c).ownBlock = some k → w0.heap.size ≤ k ∧ k < w.heap.size := fun k e => h.on.lt k e
  have hgg : g < w4.heap.size ∧ w0.heap.size ≤ g ∧ g ≠ po ∧ g ≠ pn ∧ vo.ownBlock ≠ some g ∧ (∀ b, b < w.heap.size → (Value.slice A now.length c).ownBlock ≠ some b → g ≠ b) := by
    refine ⟨(ho.lt g rfl).2, (ho.lt g rfl).1, ?_⟩
    rcases hv with q | q
    · have q2 : (Value.slice A now.length c).ownBlock = some g := by rw [← q]; rfl
      obtain ⟨b1, b2, b3⟩ := h.bn g q2
      exact ⟨b1, b2, b3, fun b _ hb e2 => hb (e2 ▸ q2)⟩
    · have q2 : some g = some (w.alloc (.cells #[.int .i64 0, .string ⟨#[]⟩, .string ⟨#[]⟩, .string ⟨#[]⟩, .slice none 0 0, .bool false] tyP)).heap.size := q
      injection q2 with q2
      rw [hsz] at q2
      refine ⟨by omega, by omega, fun e => ?_, fun b hb _ => by omega⟩
      have := (h.oo.lt g e).2
      omega
  have hg2 := (hg.block pn hpn (fun e => (h3.bn pn e.symm).2.1 rfl)).trans h3.hn
  obtain ⟨n, hn⟩ : ∃ n, now.length = n := ⟨_, rfl⟩
  unfold OwnG at ho
  rw [hlen] at ho
  have ho' : OwnG encPt 6 tyP w4 w0.heap.size (.slice (some ⟨g, 0, none⟩) (now.length + 1) c') (now ++ [pt0]) := by unfold OwnG; rw [hlen]; exact ho
  have hk1 : Kp w4 (w4.setCell ⟨pn, 0, none⟩ (.slice (some ⟨g, 0, none⟩) (now.length + 1) c')) (fun k => k = pn) := objKp
  have ho2 : OwnG encPt 6 tyP (w4.setCell ⟨pn, 0, none⟩ (.slice (some ⟨g, 0, none⟩) (now.length + 1) c')) w0.heap.size (.slice (some ⟨g, 0, none⟩) (now.length + 1) c') (now ++ [pt0]) := ho'.of fun k e => hk1.block k (ho'.lt k e).2 (by
    have e' : some g = some k := e
    injection e' with e'
    exact e' ▸ hgg.2.2.2.1)
  obtain ⟨k1, k2⟩ := set6_ok ho' rfl x
  obtain ⟨k3, k4⟩ := set6_ok ho2 rfl x
  have hcm := set6_comm w4 g (now.length * 6) x pn (.slice (some ⟨g, 0, none⟩) (now.length + 1) c') hgg.2.2.2.1
  have hks := set6_kp w4 g (now.length * 6) x
  have hs2 := (hks.block pn (Nat.lt_of_lt_of_le hpn hg.size) (fun e => hgg.2.2.2.1 e.symm)).trans hg2
  have hk5 : Kp (set6 w4 g (now.length * 6) x) ((set6 w4 g (now.length * 6) x).setCell ⟨pn, 0, none⟩ (.slice (some ⟨g, 0, none⟩) (now.length + 1) c')) (fun k => k = pn) := objKp
  have hs3 : ((set6 w4 g (now.length * 6) x).setCell ⟨pn, 0, none⟩ (.slice (some ⟨g, 0, none⟩) (now.length + 1) c')).heap[pn]? = some (.cells #[.slice (some ⟨g, 0, none⟩) (now.length + 1) c'] tyN) := by simpa using objSet (j := 0) (vs := [.slice A now.length c]) hs2 (.slice (some ⟨g, 0, none⟩) (now.length + 1) c')
  have hs4 := hg.size
  have hw4 : ∀ b, b < w.heap.size → (Value.slice A now.length c).ownBlock ≠ some b → w4.heap[b]? = w.heap[b]? := fun b hb1 hb2 => (hg.block b (by omega) (fun e => hb2 e.symm)).trans (Below.heap_alloc _ _ _ hb1)
  have hall : ∀ b, b < w.heap.size → b ≠ pn → (Value.slice A now.length c).ownBlock ≠ some b → w4.heap[b]? = w.heap[b]? ∧ (set6 w4 g (now.length * 6) x).heap[b]? = w.heap[b]? ∧ (w4.setCell ⟨pn, 0, none⟩ (.slice (some ⟨g, 0, none⟩) (now.length + 1) c')).heap[b]? = w.heap[b]? ∧ ((set6 w4 g (now.length * 6) x).setCell ⟨pn, 0, none⟩ (.slice (some ⟨g, 0, none⟩) (now.length + 1) c')).heap[b]? = w.heap[b]? := fun b q1 q2 q3 => by
    have r1 := hw4 b q1 q3
    have hb4 : b < w4.heap.size := by omega
    have r2 := (hks.block b hb4 (fun e => hgg.2.2.2.2.2 b q1 q3 e.symm)).trans r1
    exact ⟨r1, r2, (hk1.block b hb4 q2).trans r1, (hk5.block b (Nat.lt_of_lt_of_le hb4 hks.size) q2).trans r2⟩
  refine ⟨g, c', w4, hrun, ⟨cellOfF hg2 (j := 0) rfl, freeOfF hg2 0⟩, k1, ⟨cellOfF hs2 (j := 0) rfl, freeOfF hs2 0⟩, k3, hcm, hall, ?_⟩
  have hbl : Below w0.heap.size w0 ((set6 w4 g (now.length * 6) x).setCell ⟨pn, 0, none⟩ (.slice (some ⟨g, 0, none⟩) (now.length + 1) c')) := by
    have b1 : Below w0.heap.size w0 w4 := h3.below.trans (Below.of_gb hg h3.below.size (fun k e => (hnl k e).1))
    have b2 := hks.below b1 (Nat.le_refl _) (fun k e => e ▸ hgg.2.1)
    exact hk5.below b2 (Nat.le_refl _) (fun k e => e ▸ h.lo.2.1)
  have hne : ∀ b, b < w.heap.size → (∀ k, vo.ownBlock = some k → True) → True := fun _ _ _ => trivial
  have hvo : ∀ k, vo.ownBlock = some k → k < w.heap.size ∧ k ≠ pn ∧ (Value.slice A now.length c).ownBlock ≠ some k := fun k e => ⟨(h.oo.lt k e).2, (h.bo k e).2, fun e2 => (h.bn k e2).2.2 e⟩
  have hpo : po < w.heap.size ∧ po ≠ pn ∧ (Value.slice A now.length c).ownBlock ≠ some po := ⟨hpo0, h.lo.2.2, fun e => (h.bn po e).1 rfl⟩
  refine ⟨hbl, h.lo, (hall po hpo.1 hpo.2.1 hpo.2.2).2.2.2.trans h.ho, hs3, h.oo.of fun k e => (hall k (hvo k e).1 (hvo k e).2.1 (hvo k e).2.2).2.2.2, ?_, h.bo, ?_, fun r hr2 => ?_⟩
  · refine k2.of fun k e => hk5.block k (k2.lt k e).2 ?_
    have e' : some g = some k := e
    injection e' with e'
    exact e' ▸ hgg.2.2.2.1
  · intro k e
    have e' : some g = some k := e
    injection e' with e'
    subst e'
    exact ⟨hgg.2.2.1, hgg.2.2.2.1, hgg.2.2.2.2.1⟩
  · obtain ⟨r1, r2, r3, r4⟩ := h.rows r hr2
    have hsz2 : w.heap.size ≤ ((set6 w4 g (now.length * 6) x).setCell ⟨pn, 0, none⟩ (.slice (some ⟨g, 0, none⟩) (now.length + 1) c')).heap.size := by
      have := hks.size
      have := hk5.size
      omega
    refine ⟨r1.of hsz2 fun a e hl2 => ?_, r2, r3, fun a e => ?_⟩
    · obtain ⟨q1, q2, q3, q4, q5⟩ := r4 a e
      exact (hall _ hl2 q3 q5).2.2.2
    · obtain ⟨q1, q2, q3, q4, q5⟩ := r4 a e
      refine ⟨by omega, q2, q3, q4, fun e2 => ?_⟩
      have e' : some g = some a.block := e2
      injection e' with e'
      exact hgg.2.2.2.2.2 a.block q1 q5 e'
end Go.Proofs.Ythcgnfoijemcbaa
