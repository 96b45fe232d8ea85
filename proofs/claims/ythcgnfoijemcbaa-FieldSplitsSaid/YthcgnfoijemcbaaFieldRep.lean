/- Parts in memory, and what Split holds in memory while it gathers. -/
import Derived.Test.YthcgnfoijemcbaaFieldMath
import Derived.Test.YthcgnfoijemcbaaRowG
import Derived.Test.YthcgnfoijemcbaaObj
namespace Go.Proofs.Ythcgnfoijemcbaa
open Go.RowKit Go.Deep
set_option linter.unusedSimpArgs false
set_option linter.unusedVariables false

def encPt (p : Pt) : List Value := [.int .i64 p.kind, .string p.text, .string p.name, .string p.op, .slice p.wA p.wn p.wc, .bool p.q]
theorem encPt_len (p : Pt) : (encPt p).length = 6 := rfl
theorem encPt_one (p : Pt) : ∀ u ∈ encPt p, u.oneCell' = true := by
  intro u hu
  simp [encPt] at hu
  rcases hu with rfl | rfl | rfl | rfl | rfl | rfl <;> rfl
def pt0 : Pt := ⟨0, ⟨#[]⟩, ⟨#[]⟩, ⟨#[]⟩, none, 0, 0, false⟩
def rowPt : RowT Try.prog 26 28 6 := { z := .agg #[.int .i64 0, .string ⟨#[]⟩, .string ⟨#[]⟩, .string ⟨#[]⟩, .slice none 0 0, .bool false], bytes := 88, und := Try.underlying26, info := by kernel_rfl, zlen := rfl, pos := by omega, sb := by omega }
/-- a field in memory -/
structure FR where
  A : Option Addr
  c : Nat
  L : List Pt
def encFR (r : FR) : List Value := [.slice r.A r.L.length r.c]
theorem encFR_len (r : FR) : (encFR r).length = 1 := rfl
theorem encFR_one (r : FR) : ∀ u ∈ encFR r, u.oneCell' = true := by
  intro u hu
  simp [encFR] at hu
  rw [hu]; rfl
def rowFR : RowT Try.prog 24 26 1 := { z := .slice none 0 0, bytes := 24, und := Try.underlying24, info := by kernel_rfl, zlen := rfl, pos := by omega, sb := by omega }
abbrev tyF : TypeId := 24
abbrev tyN : TypeId := 26
abbrev tyP : TypeId := 28
theorem cellOfF {w : World} {g : Nat} {cs : Array Value} {t : TypeId} (h : w.heap[g]? = some (.cells cs t)) {j : Nat} {v : Value} (hj : cs[j]? = some v) : w.cell? ⟨g, j, none⟩ = some v := by simp [World.cell?, h, hj]
theorem freeOfF {w : World} {g : Nat} {cs : Array Value} {t : TypeId} (h : w.heap[g]? = some (.cells cs t)) (j : Nat) : w.frozen? ⟨g, j, none⟩ = false := by simp [World.frozen?, h]
/-- what Split holds: what is done (in the block po), what is being gathered (in the block pn) -/
structure SpI (w0 : World) (po pn : Nat) (out : List FR) (now : List Pt) (vo vn : Value) (w : World) : Prop where
  below : Below w0.heap.size w0 w
  lo : w0.heap.size ≤ po ∧ w0.heap.size ≤ pn ∧ po ≠ pn
  ho : w.heap[po]? = some (.cells #[vo] tyF)
  hn : w.heap[pn]? = some (.cells #[vn] tyN)
  oo : OwnG encFR 1 tyN w w0.heap.size vo out
  on : OwnG encPt 6 tyP w w0.heap.size vn now
  bo : ∀ k, vo.ownBlock = some k → k ≠ po ∧ k ≠ pn
  bn : ∀ k, vn.ownBlock = some k → k ≠ po ∧ k ≠ pn ∧ vo.ownBlock ≠ some k
  rows : ∀ r ∈ out, RG encPt 6 w r.A r.L ∧ r.L.length ≤ r.c ∧ r.L ≠ [] ∧ ∀ a, r.A = some a → a.block < w.heap.size ∧ a.block ≠ po ∧ a.block ≠ pn ∧ vo.ownBlock ≠ some a.block ∧ vn.ownBlock ≠ some a.block
theorem OwnG.of {α : Type} {enc : α → List Value} {n : Nat} {E : TypeId} {w w' : World} {base : Nat} {v : Value} {L : List α} (h : OwnG enc n E w base v L) (hb : ∀ k, v.ownBlock = some k → w'.heap[k]? = w.heap[k]?) : OwnG enc n E w' base v L := ownsRow_of h hb
theorem SpI.step {w0 w w' : World} {po pn : Nat} {out : List FR} {now : List Pt} {vo vn : Value} (h : SpI w0 po pn out now vo vn w) (hb : Below w.heap.size w w') : SpI w0 po pn out now vo vn w' := by
  have h1 := (Array.getElem?_eq_some_iff.1 h.ho).1
  have h2 := (Array.getElem?_eq_some_iff.1 h.hn).1
  refine ⟨h.below.trans (hb.mono h.below.size), h.lo, (hb.block _ h1).trans h.ho, (hb.block _ h2).trans h.hn, h.oo.of fun k hk => hb.block k (h.oo.lt k hk).2, h.on.of fun k hk => hb.block k (h.on.lt k hk).2, h.bo, h.bn, fun r hr => ?_⟩
  obtain ⟨r1, r2, r3, r4⟩ := h.rows r hr
  exact ⟨r1.below hb, r2, r3, fun a e => ⟨Nat.lt_of_lt_of_le (r4 a e).1 hb.size, (r4 a e).2⟩⟩
/-- a world that differs at some blocks of Split's own alone -/
theorem SpI.below_of {w0 w w' : World} {po pn : Nat} {out : List FR} {now : List Pt} {vo vn : Value} (h : SpI w0 po pn out now vo vn w) (hk : Kp w w' (fun k => w0.heap.size ≤ k)) : Below w0.heap.size w0 w' := hk.below h.below (Nat.le_refl _) fun k hk => hk
/-- nothing was gathered: nil is stored -/
theorem SpI.flush0 {w0 w : World} {po pn : Nat} {out : List FR} {vo vn : Value} (h : SpI w0 po pn out [] vo vn w) : SpI w0 po pn out [] vo (.slice none 0 0) (w.setCell ⟨pn, 0, none⟩ (.slice none 0 0)) := by
  have hk : Kp w (w.setCell ⟨pn, 0, none⟩ (.slice none 0 0)) (fun k => k = pn) := objKp
  have hs := objSet (j := 0) (vs := [vn]) h.hn (.slice none 0 0)
  have h1 := (Array.getElem?_eq_some_iff.1 h.ho).1
  refine ⟨h.below_of (hk.mono fun k e => e ▸ h.lo.2.1), h.lo, (hk.block po h1 h.lo.2.2).trans h.ho, by simpa using hs, h.oo.of fun k e => hk.block k (h.oo.lt k e).2 (h.bo k e).2, OwnG.nil _ _, h.bo, fun k e => by simp [Value.ownBlock] at e, fun r hr => ?_⟩
  obtain ⟨r1, r2, r3, r4⟩ := h.rows r hr
  refine ⟨r1.of (by simp) fun a e hl => hk.block _ hl (r4 a e).2.2.1, r2, r3, fun a e => ⟨by simpa using (r4 a e).1, (r4 a e).2.1, (r4 a e).2.2.1, (r4 a e).2.2.2.1, by simp [Value.ownBlock]⟩⟩
/-- what was gathered is done -/
theorem SpI.flush1 {w0 w : World} {po pn : Nat} {out : List FR} {now : List Pt} {A0 : Option Addr} {n0 c0 : Nat} {A : Option Addr} {n c : Nat} (h : SpI w0 po pn out now (.slice A0 n0 c0) (.slice A n c) w) (hne : now ≠ []) (hl : out.length ≤ 1000000) :
    ∃ A' c' w4, (Builtin.append_ #[tyF, tyF] tyF #[.slice A0 n0 c0, .slice (some ⟨w.heap.size, 0, none⟩) 1 1]).run Try.prog (w.alloc (.cells #[.slice A n c] tyN)) = .ok (.slice A' (n0 + 1) c') w4 ∧
      (w4.cell? ⟨po, 0, none⟩ = some (.slice A0 n0 c0) ∧ w4.frozen? ⟨po, 0, none⟩ = false) ∧
      ((w4.setCell ⟨po, 0, none⟩ (.slice A' (n0 + 1) c')).cell? ⟨pn, 0, none⟩ = some (.slice A n c) ∧ (w4.setCell ⟨po, 0, none⟩ (.slice A' (n0 + 1) c')).frozen? ⟨pn, 0, none⟩ = false) ∧
      SpI w0 po pn (out ++ [⟨A, c, now⟩]) [] (.slice A' (n0 + 1) c') (.slice none 0 0) ((w4.setCell ⟨po, 0, none⟩ (.slice A' (n0 + 1) c')).setCell ⟨pn, 0, none⟩ (.slice none 0 0)) := by
  obtain ⟨A1, c1, e, hc, hr, hb, _⟩ := h.on.slice encPt_len
  injection e with e1 e2 e3
  subst e1 e2 e3
  obtain ⟨A2, c2, e, _, _, _, _⟩ := h.oo.slice encFR_len
  injection e with e1 e2 e3
  have hba := (Below.refl w.heap.size w).alloc (Nat.le_refl _) (.cells #[.slice A now.length c] tyN)
  have h3 := h.step hba
  have hx : RG encFR 1 (w.alloc (.cells #[.slice A now.length c] tyN)) (some ⟨w.heap.size, 0, none⟩) [⟨A, c, now⟩] := rg_new (enc := encFR) (n := 1) w ⟨A, c, now⟩ tyN
  obtain ⟨v4, w4, hrun, ho, hg, hv⟩ := run_appG rowFR encFR_len encFR_one (c := 1) h3.oo hx h3.below.size (by simp; omega)
  obtain ⟨A', c', e9, _, _, _, _⟩ := ho.slice encFR_len
  rw [List.length_append, List.length_singleton, ← e2] at e9
  subst e9
  have hsz : (w.alloc (.cells #[.slice A now.length c] tyN)).heap.size = w.heap.size + 1 := by simp
  have hpo := (Array.getElem?_eq_some_iff.1 h3.ho).1
  have hpn := (Array.getElem?_eq_some_iff.1 h3.hn).1
  have hpo0 := (Array.getElem?_eq_some_iff.1 h.ho).1
  have hpn0 := (Array.getElem?_eq_some_iff.1 h.hn).1
  have hg1 := (hg.block po hpo (fun e => (h3.bo po e.symm).1 rfl)).trans h3.ho
  have hg2 := (hg.block pn hpn (fun e => (h3.bo pn e.symm).2 rfl)).trans h3.hn
  have hs1 : (w4.setCell ⟨po, 0, none⟩ (.slice A' (n0 + 1) c')).heap[po]? = some (.cells #[.slice A' (n0 + 1) c'] tyF) := by simpa using objSet (j := 0) (vs := [.slice A0 n0 c0]) hg1 (.slice A' (n0 + 1) c')
  have hk1 : Kp w4 (w4.setCell ⟨po, 0, none⟩ (.slice A' (n0 + 1) c')) (fun k => k = po) := objKp
  have hs2 := (hk1.block pn (Nat.lt_of_lt_of_le hpn hg.size) (fun e => h.lo.2.2 e.symm)).trans hg2
  obtain ⟨w5, hw5⟩ : ∃ Z, w4.setCell ⟨po, 0, none⟩ (.slice A' (n0 + 1) c') = Z := ⟨_, rfl⟩
  rw [hw5] at hs1 hk1 hs2
  have hs3 : (w5.setCell ⟨pn, 0, none⟩ (.slice none 0 0)).heap[pn]? = some (.cells #[.slice none 0 0] tyN) := by simpa using objSet (j := 0) (vs := [.slice A now.length c]) hs2 (.slice none 0 0)
  have hk2 : Kp w5 (w5.setCell ⟨pn, 0, none⟩ (.slice none 0 0)) (fun k => k = pn) := objKp
  obtain ⟨w6, hw6⟩ : ∃ Z, w5.setCell ⟨pn, 0, none⟩ (.slice none 0 0) = Z := ⟨_, rfl⟩
  rw [hw6] at hs3 hk2
  have hvl : ∀ k, (Value.slice A0 n0 c0).ownBlock = some k → w0.heap.size ≤ k ∧ k < w.heap.size := fun k e => h.oo.lt k e
  have hnl : ∀ k, (Value.slice A now.length c).ownBlock = some k → w0.heap.size ≤ k ∧ k < w.heap.size := fun k e => h.on.lt k e
  have hkk : ∀ k, k < w4.heap.size → k ≠ po → k ≠ pn → w6.heap[k]? = w4.heap[k]? := fun k h1 h2 h3 => (hk2.block k (Nat.lt_of_lt_of_le h1 hk1.size) h3).trans (hk1.block k h1 h2)
  have hk4 : ∀ k, k < w.heap.size → (Value.slice A0 n0 c0).ownBlock ≠ some k → w4.heap[k]? = w.heap[k]? := fun k h1 h2 => (hg.block k (by omega) (fun e => h2 e.symm)).trans (Below.heap_alloc _ _ _ h1)
  have hvn : ∀ k, (Value.slice A' (n0 + 1) c').ownBlock = some k → k < w4.heap.size ∧ w0.heap.size ≤ k ∧ k ≠ po ∧ k ≠ pn ∧ (∀ a : Addr, a.block < w.heap.size → (Value.slice A0 n0 c0).ownBlock ≠ some a.block → k ≠ a.block) := fun k e => by
    refine ⟨(ho.lt k e).2, (ho.lt k e).1, ?_⟩
    rcases hv with q | q
    · rw [q] at e
      exact ⟨(h.bo k e).1, (h.bo k e).2, fun a _ ha e2 => ha (e2 ▸ e)⟩
    · rw [q] at e
      injection e with e
      rw [hsz] at e
      exact ⟨by omega, by omega, fun a ha _ => by omega⟩
  have hs4 := hg.size
  refine ⟨A', c', w4, hrun, ⟨cellOfF hg1 (j := 0) rfl, freeOfF hg1 0⟩, ⟨?_, ?_⟩, ?_⟩
  · rw [hw5]; exact cellOfF hs2 (j := 0) rfl
  · rw [hw5]; exact freeOfF hs2 0
  · rw [hw5, hw6]
    have hbl : Below w0.heap.size w0 w6 := by
      have b1 : Below w0.heap.size w0 w4 := h3.below.trans (Below.of_gb hg h3.below.size (fun k e => (hvl k e).1))
      have b2 := hk1.below b1 (Nat.le_refl _) (fun k e => e ▸ h.lo.1)
      exact hk2.below b2 (Nat.le_refl _) (fun k e => e ▸ h.lo.2.1)
    refine ⟨hbl, h.lo, (hk2.block po (Array.getElem?_eq_some_iff.1 hs1).1 h.lo.2.2).trans hs1, hs3, ho.of fun k e => hkk k (hvn k e).1 (hvn k e).2.2.1 (hvn k e).2.2.2.1, OwnG.nil _ _, fun k e => ⟨(hvn k e).2.2.1, (hvn k e).2.2.2.1⟩, fun k e => by simp [Value.ownBlock] at e, fun r hr2 => ?_⟩
    have hw64 : w4.heap.size ≤ w6.heap.size := Nat.le_trans hk1.size hk2.size
    rcases List.mem_append.1 hr2 with hr2 | hr2
    · obtain ⟨r1, r2, r3, r4⟩ := h.rows r hr2
      refine ⟨r1.of (by omega) fun a e hl => ?_, r2, r3, fun a e => ?_⟩
      · obtain ⟨q1, q2, q3, q4, q5⟩ := r4 a e
        rw [hkk _ (by omega) q2 q3, hk4 _ hl q4]
      · obtain ⟨q1, q2, q3, q4, q5⟩ := r4 a e
        exact ⟨by omega, q2, q3, fun e2 => (hvn _ e2).2.2.2.2 a q1 q4 rfl, by simp [Value.ownBlock]⟩
    · rw [List.mem_singleton.1 hr2]
      have q : ∀ a, A = some a → a.block < w.heap.size ∧ a.block ≠ po ∧ a.block ≠ pn ∧ (Value.slice A0 n0 c0).ownBlock ≠ some a.block := fun a e => by
        have e1 := hb a e
        obtain ⟨q2, q3, q4⟩ := h.bn _ e1
        exact ⟨(hnl _ e1).2, q2, q3, q4⟩
      refine ⟨hr.of (by omega) fun a e hl => ?_, hc, hne, fun a e => ?_⟩
      · obtain ⟨q1, q2, q3, q4⟩ := q a e
        rw [hkk _ (by omega) q2 q3, hk4 _ q1 q4]
      · obtain ⟨q1, q2, q3, q4⟩ := q a e
        exact ⟨by omega, q2, q3, fun e2 => (hvn _ e2).2.2.2.2 a q1 q4 rfl, by simp [Value.ownBlock]⟩
end Go.Proofs.Ythcgnfoijemcbaa
