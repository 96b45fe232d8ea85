/- Walks of field.Text and of the reference's Text. -/
import Derived.Test.YthcgnfoijemcbaaFieldRep
import Derived.Test.YthcgnfoijemcbaaFieldBld
namespace Go.Proofs.Ythcgnfoijemcbaa
open Go.RowKit Go.Deep
set_option linter.unusedSimpArgs false
set_option linter.unusedVariables false

theorem Bld.step {B b : Nat} {l : List UInt8} {w w' : World} (h : Bld B b l w) (hb : Below w.heap.size w w') : Bld B b l w' := by
  have key : ∀ p, Lib.BuilderAt 38 5 B b p (Lib.byteCells l) w → Lib.BuilderAt 38 5 B b p (Lib.byteCells l) w' := by
    rintro p ⟨h1, v, h2, h3, h4⟩
    exact ⟨h1, v, (hb.block b (Array.getElem?_eq_some_iff.1 h2).1).trans h2, ownsRow_of h3 fun k hk => hb.block k (h3.lt k hk).2, h4⟩
  exact h.imp (key _) (key _)
/-- the text of parts -/
def textS (L : List Pt) : List UInt8 := L.flatMap fun p => p.text.data.toList
theorem textS_succ {L : List Pt} {k : Nat} {x : Pt} (h : L[k]? = some x) : textS (L.take (k + 1)) = textS (L.take k) ++ x.text.data.toList := by
  unfold textS
  rw [List.take_add_one, h, List.flatMap_append]
  simp
theorem textS_le (L : List Pt) (k : Nat) : (textS (L.take k)).length ≤ (textS L).length := by
  have h : textS L = textS (L.take k) ++ textS (L.drop k) := by
    unfold textS
    rw [← List.flatMap_append, List.take_append_drop]
  rw [h, List.length_append]; omega
set_option maxRecDepth 100000 in
set_option maxHeartbeats 4000000 in
theorem text_any (A : Option Addr) (c : Nat) (L : List Pt) (w : World) (hA : RG encPt 6 w A L) (hl : L.length ≤ 1000000) (hz : (textS L).length ≤ 1000000) :
    Calls Try.prog 7 #[.slice A L.length c] w fun e w' => e = .returned (.string (bsF (textS L))) ∧ Below w.heap.size w w' := by
  have HA := hide hA
  have HZ := hide hz
  obtain ⟨n, hn⟩ : ∃ n, L.length = n := ⟨_, rfl⟩
  have HN := hide hn
  rw [hn] at hl ⊢
  have hni : (n : Int) ≤ 1000000 := by omega
  have HB0 := hide (Bld.fresh w)
  clear hA hz hn
  go_enter Try.func7, Try.ntmps7
  go_wp2
  go_loopw [5, 8] (fun _ v8 wr => ∃ k : Nat, v8 = .int .i64 k ∧ k ≤ n ∧ Hid (Bld w.heap.size w.heap.size (textS (L.take k)) wr) ∧ Hid (Below w.heap.size w wr)) (fun _ v8 _ => n - (intOf v8).toNat)
  case atStart => exact ⟨0, rfl, by omega, HB0, hide ((Below.refl _ _).alloc (Nat.le_refl _) _)⟩
  case round =>
    obtain ⟨wo, hwo⟩ : ∃ Z, Z = wr := ⟨_, rfl⟩
    subst hwo
    obtain ⟨k, rfl, hk, HBL, HBE⟩ := hrel
    by_cases hlt : k < n
    case neg =>
      obtain rfl : k = n := by omega
      have htk : L.take k = L := List.take_of_length_le (by have := HN.out; omega)
      have hs := HBL.out
      rw [htk] at hs
      have HS := hide (bldStr_any w.heap.size w.heap.size _ wo hs HBE.out.size)
      clear hs htk
      go_wp2_with fail
      refine HS.out.mono ?_
      rintro e wf ⟨rfl, hb⟩
      have HF := hide (HBE.out.trans hb)
      clear hb
      go_wp2
      go_ret
      exact ⟨rfl, HF.out⟩
    obtain ⟨x, hx⟩ : ∃ x, L[k]? = some x := ⟨L[k]'(by have := HN.out; omega), List.getElem?_eq_getElem _⟩
    obtain ⟨g, o, rfl, hg, hc⟩ := HA.out.below HBE.out k x hx
    have hc0 : wo.cell? ⟨g, o + k * 6, none⟩ = some (.int .i64 x.kind) := by have := hc 0 _ rfl; simpa using this
    have hc1 : wo.cell? ⟨g, o + k * 6 + 1, none⟩ = some (.string x.text) := hc 1 _ rfl
    have hc2 : wo.cell? ⟨g, o + k * 6 + 2, none⟩ = some (.string x.name) := hc 2 _ rfl
    have hc3 : wo.cell? ⟨g, o + k * 6 + 3, none⟩ = some (.string x.op) := hc 3 _ rfl
    have hc4 : wo.cell? ⟨g, o + k * 6 + 4, none⟩ = some (.slice x.wA x.wn x.wc) := hc 4 _ rfl
    have hc5 : wo.cell? ⟨g, o + k * 6 + 5, none⟩ = some (.bool x.q) := hc 5 _ rfl
    have b1 : (k : Int) < (n : Int) := by omega
    have HTS := hide (textS_succ hx)
    have htl := textS_le L (k + 1)
    rw [HTS.out, List.length_append] at htl
    have hbo := (Below.refl wo.heap.size wo).alloc (Nat.le_refl _) (.cells #[.int .i64 x.kind, .string x.text, .string x.name, .string x.op, .slice x.wA x.wn x.wc, .bool x.q] tyP)
    have HWR := hide (writeStr_any w.heap.size w.heap.size (textS (L.take k)) x.text _ (HBL.out.step hbo) (by rw [Lib.size_eq]; have := HZ.out; omega) (by have := HBE.out.size; have := hbo.size; omega))
    have HB1 := hide (HBE.out.trans (hbo.mono HBE.out.size))
    have HBX := hide (heapNew wo (.cells #[.int .i64 x.kind, .string x.text, .string x.name, .string x.op, .slice x.wA x.wn x.wc, .bool x.q] tyP))
    clear hc hx htl hbo
    obtain ⟨kd, tx, nm, op, wA, wn, wk, q⟩ := x
    dsimp only at hc0 hc1 hc2 hc3 hc4 hc5
    have e1 : (wo.alloc (.cells #[.int .i64 kd, .string tx, .string nm, .string op, .slice wA wn wk, .bool q] tyP)).cell? ⟨wo.heap.size, 1, none⟩ = some (.string tx) := cellOfF HBX.out rfl
    go_wp2_with fail
    refine HWR.out.mono ?_
    rintro e wf ⟨rfl, hbl, hbe⟩
    have HBL2 := hide hbl
    have HBE2 := hide (HB1.out.trans hbe)
    clear hbl hbe e1
    go_wp2
    exact ⟨⟨k + 1, by go_num, by omega, hide (by rw [HTS.out]; exact HBL2.out), HBE2⟩, by simp [intOf]; omega⟩
set_option maxRecDepth 100000 in
set_option maxHeartbeats 4000000 in
theorem rtext_any (A : Option Addr) (c : Nat) (L : List Pt) (w : World) (hA : RG encPt 6 w A L) (hl : L.length ≤ 1000000) (hz : (textS L).length ≤ 1000000) :
    Calls Try.prog 11 #[.slice A L.length c] w fun e w' => e = .returned (.string (bsF (textS L))) ∧ w = w' := by
  have HA := hide hA
  have HZ := hide hz
  obtain ⟨n, hn⟩ : ∃ n, L.length = n := ⟨_, rfl⟩
  have HN := hide hn
  rw [hn] at hl ⊢
  have hni : (n : Int) ≤ 1000000 := by omega
  clear hA hz hn
  go_enter Try.func11, Try.ntmps11
  go_wp2
  go_loopw [3, 4] (fun v3 v4 wr => ∃ k : Nat, v4 = .int .i64 k ∧ k ≤ n ∧ v3 = .string (bsF (textS (L.take k))) ∧ wr = w) (fun _ v4 _ => n - (intOf v4).toNat)
  case atStart => exact ⟨0, rfl, by omega, rfl, rfl⟩
  case round =>
    obtain ⟨k, rfl, hk, rfl, rfl⟩ := hrel
    by_cases hlt : k < n
    case neg =>
      obtain rfl : k = n := by omega
      have htk : L.take k = L := List.take_of_length_le (by have := HN.out; omega)
      rw [htk]
      go_wp2
      go_ret
      exact ⟨rfl, rfl⟩
    obtain ⟨x, hx⟩ : ∃ x, L[k]? = some x := ⟨L[k]'(by have := HN.out; omega), List.getElem?_eq_getElem _⟩
    obtain ⟨g, o, rfl, hg, hc⟩ := HA.out k x hx
    have hc1 : wr.cell? ⟨g, o + k * 6 + 1, none⟩ = some (.string x.text) := hc 1 _ rfl
    have b1 : (k : Int) < (n : Int) := by omega
    have HTS := hide (show bsF (textS (L.take (k + 1))) = bsF (textS (L.take k)) ++ x.text by
      rw [textS_succ hx]
      exact ByteArray.ext (Array.ext' (by simp [bsF])))
    have htl := textS_le L (k + 1)
    rw [textS_succ hx, List.length_append] at htl
    have hcat : (bsF (textS (L.take k))).size + x.text.size ≤ 1000000 := by rw [Lib.size_eq, Lib.size_eq x.text]; have := HZ.out; simp only [bsF] at *; omega
    clear hc hx htl
    go_wp2
    exact ⟨⟨k + 1, by go_num, by omega, by rw [HTS.out], trivial⟩, by simp [intOf]; omega⟩
end Go.Proofs.Ythcgnfoijemcbaa
