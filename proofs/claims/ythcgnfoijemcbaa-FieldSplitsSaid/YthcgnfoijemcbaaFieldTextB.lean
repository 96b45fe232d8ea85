/- Walks of field.Pattern and of the reference's Pattern. -/
import Derived.Test.YthcgnfoijemcbaaFieldTextA
import Derived.Test.YthcgnfoijemcbaaFieldQuote
namespace Go.Proofs.Ythcgnfoijemcbaa
open Go.RowKit Go.Deep
set_option linter.unusedSimpArgs false
set_option linter.unusedVariables false

def quoS (s : ByteArray) : ByteArray := Qt.sb (Qt.qb (bt s) s.size)
theorem quoS_size (s : ByteArray) : (quoS s).size ≤ 2 * s.size := by
  unfold quoS
  rw [Qt.sb_size]
  exact Qt.qb_len _ _
/-- a part's pattern -/
def patP (p : Pt) : ByteArray := if p.kind = 1 then p.text else quoS p.text
def patS (L : List Pt) : List UInt8 := L.flatMap fun p => (patP p).data.toList
theorem patS_succ {L : List Pt} {k : Nat} {x : Pt} (h : L[k]? = some x) : patS (L.take (k + 1)) = patS (L.take k) ++ (patP x).data.toList := by
  unfold patS
  rw [List.take_add_one, h, List.flatMap_append]
  simp
theorem patP_size (p : Pt) : (patP p).size ≤ 2 * p.text.size := by
  unfold patP
  split
  · omega
  · exact quoS_size _
theorem patS_le (L : List Pt) (hz : ∀ p ∈ L, p.text.size ≤ 1000) : ∀ k, (patS (L.take k)).length ≤ k * 2000
  | 0 => by simp [patS]
  | k + 1 => by
    have ih := patS_le L hz k
    cases hx : L[k]? with
    | none =>
      have : L.take (k + 1) = L.take k := by rw [List.take_add_one, hx]; simp
      rw [this, Nat.add_mul]; exact Nat.le_trans ih (Nat.le_add_right _ _)
    | some x =>
      have h1 := hz x (List.mem_of_getElem? hx)
      have h2 := patP_size x
      rw [patS_succ hx, List.length_append, ← Lib.size_eq, Nat.add_mul]
      exact Nat.add_le_add ih (Nat.le_trans h2 (by omega))
set_option maxRecDepth 100000 in
set_option maxHeartbeats 4000000 in
theorem pat_any (A : Option Addr) (c : Nat) (L : List Pt) (w : World) (hA : RG encPt 6 w A L) (hl : L.length ≤ 1000) (hz : ∀ p ∈ L, p.text.size ≤ 1000) :
    Calls Try.prog 12 #[.slice A L.length c] w fun e w' => e = .returned (.string (bsF (patS L))) ∧ Below w.heap.size w w' := by
  have HA := hide hA
  have HZ := hide hz
  obtain ⟨n, hn⟩ : ∃ n, L.length = n := ⟨_, rfl⟩
  have HN := hide hn
  rw [hn] at hl ⊢
  have hni : (n : Int) ≤ 1000 := by omega
  have HB0 := hide (Bld.fresh w)
  clear hA hz hn
  go_enter Try.func12, Try.ntmps12
  go_wp2
  go_loopw [5, 8] (fun _ v8 wr => ∃ k : Nat, v8 = .int .i64 k ∧ k ≤ n ∧ Hid (Bld w.heap.size w.heap.size (patS (L.take k)) wr) ∧ Hid (Below w.heap.size w wr)) (fun _ v8 _ => n - (intOf v8).toNat)
  case atStart => exact ⟨0, rfl, by omega, HB0, hide ((Below.refl _ _).alloc (Nat.le_refl _) _)⟩
  case round =>
    obtain ⟨wo, hwo⟩ : ∃ Z, Z = wr := ⟨_, rfl⟩
    subst hwo
    obtain ⟨k, rfl, hk, HBL, HBE⟩ := hrel
    by_cases hlt : k < n
    case neg =>
      obtain rfl : k = n := by omega
      have htk : L.take k = L := List.take_of_length_le (by have := HN.out; omega)
      have hs := HBL.out
      rw [htk] at hs
      have HS := hide (bldStr_any w.heap.size w.heap.size _ wo hs HBE.out.size)
      clear hs htk
      go_wp2_with fail
      refine HS.out.mono ?_
      rintro e wf ⟨rfl, hb⟩
      have HF := hide (HBE.out.trans hb)
      clear hb
      go_wp2
      go_ret
      exact ⟨rfl, HF.out⟩
    obtain ⟨x, hx⟩ : ∃ x, L[k]? = some x := ⟨L[k]'(by have := HN.out; omega), List.getElem?_eq_getElem _⟩
    obtain ⟨g, o, rfl, hg, hc⟩ := HA.out.below HBE.out k x hx
    have hc0 : wo.cell? ⟨g, o + k * 6, none⟩ = some (.int .i64 x.kind) := by have := hc 0 _ rfl; simpa using this
    have hc1 : wo.cell? ⟨g, o + k * 6 + 1, none⟩ = some (.string x.text) := hc 1 _ rfl
    have hc2 : wo.cell? ⟨g, o + k * 6 + 2, none⟩ = some (.string x.name) := hc 2 _ rfl
    have hc3 : wo.cell? ⟨g, o + k * 6 + 3, none⟩ = some (.string x.op) := hc 3 _ rfl
    have hc4 : wo.cell? ⟨g, o + k * 6 + 4, none⟩ = some (.slice x.wA x.wn x.wc) := hc 4 _ rfl
    have hc5 : wo.cell? ⟨g, o + k * 6 + 5, none⟩ = some (.bool x.q) := hc 5 _ rfl
    have b1 : (k : Int) < (n : Int) := by omega
    have HTS := hide (patS_succ hx)
    have hpl := patS_le L HZ.out k
    have hxz := HZ.out x (List.mem_of_getElem? hx)
    have hqz := quoS_size x.text
    have hbo := (Below.refl wo.heap.size wo).alloc (Nat.le_refl _) (.cells #[.int .i64 x.kind, .string x.text, .string x.name, .string x.op, .slice x.wA x.wn x.wc, .bool x.q] tyP)
    have HBS := hide (HBL.out.step hbo)
    have HB1 := hide (HBE.out.trans (hbo.mono HBE.out.size))
    have HBX := hide (heapNew wo (.cells #[.int .i64 x.kind, .string x.text, .string x.name, .string x.op, .slice x.wA x.wn x.wc, .bool x.q] tyP))
    have hpl2 : (patS (L.take k)).length ≤ 2000000 := by omega
    clear hc hx hbo hpl
    obtain ⟨kd, tx, nm, op, wA, wn, wk, q⟩ := x
    dsimp only at hc0 hc1 hc2 hc3 hc4 hc5 hxz hqz
    have e0 : (wo.alloc (.cells #[.int .i64 kd, .string tx, .string nm, .string op, .slice wA wn wk, .bool q] tyP)).cell? ⟨wo.heap.size, 0, none⟩ = some (.int .i64 kd) := cellOfF HBX.out rfl
    have e1 : (wo.alloc (.cells #[.int .i64 kd, .string tx, .string nm, .string op, .slice wA wn wk, .bool q] tyP)).cell? ⟨wo.heap.size, 1, none⟩ = some (.string tx) := cellOfF HBX.out rfl
    by_cases hkd : kd = 1
    · have HPP := hide (show patP ⟨kd, tx, nm, op, wA, wn, wk, q⟩ = tx from if_pos hkd)
      subst hkd
      have HWR := hide (writeStr_any w.heap.size w.heap.size (patS (L.take k)) tx _ HBS.out (by omega) HB1.out.size)
      clear hqz
      go_wp2_with fail
      refine HWR.out.mono ?_
      rintro e wf ⟨rfl, hbl, hbe⟩
      have HBL2 := hide hbl
      have HBE2 := hide (HB1.out.trans hbe)
      clear hbl hbe e0 e1
      go_wp2
      exact ⟨⟨k + 1, by go_num, by omega, hide (by rw [HTS.out, HPP.out]; exact HBL2.out), HBE2⟩, by simp [intOf]; omega⟩
    · have HPP := hide (show patP ⟨kd, tx, nm, op, wA, wn, wk, q⟩ = quoS tx from if_neg hkd)
      have kn : ¬ kd = 1 := hkd
      have kf : (kd == 1) = false := by simpa using hkd
      have HQU := hide (Qt.quote_any tx (wo.alloc (.cells #[.int .i64 kd, .string tx, .string nm, .string op, .slice wA wn wk, .bool q] tyP)) hxz)
      clear hkd
      go_wp2_with fail
      refine HQU.out.mono ?_
      rintro e wq ⟨rfl, hbq⟩
      have HWR := hide (writeStr_any w.heap.size w.heap.size (patS (L.take k)) (quoS tx) wq (HBS.out.step hbq) (by omega) (by have := HB1.out.size; have := hbq.size; omega))
      have HB2 := hide (HB1.out.trans (hbq.mono HB1.out.size))
      clear hbq hqz e0 e1 hpl2
      go_wp2_with fail
      refine HWR.out.mono ?_
      rintro e wf ⟨rfl, hbl, hbe⟩
      have HBL2 := hide hbl
      have HBE2 := hide (HB2.out.trans hbe)
      clear hbl hbe
      go_wp2
      exact ⟨⟨k + 1, by go_num, by omega, hide (by rw [HTS.out, HPP.out]; exact HBL2.out), HBE2⟩, by simp [intOf]; omega⟩
set_option maxRecDepth 100000 in
set_option maxHeartbeats 4000000 in
theorem rpat_any (A : Option Addr) (c : Nat) (L : List Pt) (w : World) (hA : RG encPt 6 w A L) (hl : L.length ≤ 1000) (hz : ∀ p ∈ L, p.text.size ≤ 1000) :
    Calls Try.prog 13 #[.slice A L.length c] w fun e w' => e = .returned (.string (bsF (patS L))) ∧ Below w.heap.size w w' := by
  have HA := hide hA
  have HZ := hide hz
  obtain ⟨n, hn⟩ : ∃ n, L.length = n := ⟨_, rfl⟩
  have HN := hide hn
  rw [hn] at hl ⊢
  have hni : (n : Int) ≤ 1000 := by omega
  clear hA hz hn
  go_enter Try.func13, Try.ntmps13
  go_wp2
  go_loopw [3, 4] (fun v3 v4 wr => ∃ k : Nat, v4 = .int .i64 k ∧ k ≤ n ∧ v3 = .string (bsF (patS (L.take k))) ∧ Hid (Below w.heap.size w wr)) (fun _ v4 _ => n - (intOf v4).toNat)
  case atStart => exact ⟨0, rfl, by omega, rfl, hide (Below.refl _ _)⟩
  case round =>
    obtain ⟨wo, hwo⟩ : ∃ Z, Z = wr := ⟨_, rfl⟩
    subst hwo
    obtain ⟨k, rfl, hk, rfl, HBE⟩ := hrel
    by_cases hlt : k < n
    case neg =>
      obtain rfl : k = n := by omega
      have htk : L.take k = L := List.take_of_length_le (by have := HN.out; omega)
      rw [htk]
      go_wp2
      go_ret
      exact ⟨rfl, HBE.out⟩
    obtain ⟨x, hx⟩ : ∃ x, L[k]? = some x := ⟨L[k]'(by have := HN.out; omega), List.getElem?_eq_getElem _⟩
    obtain ⟨g, o, rfl, hg, hc⟩ := HA.out.below HBE.out k x hx
    have hc0 : wo.cell? ⟨g, o + k * 6, none⟩ = some (.int .i64 x.kind) := by have := hc 0 _ rfl; simpa using this
    have hc1 : wo.cell? ⟨g, o + k * 6 + 1, none⟩ = some (.string x.text) := hc 1 _ rfl
    have b1 : (k : Int) < (n : Int) := by omega
    have HTS := hide (show bsF (patS (L.take (k + 1))) = bsF (patS (L.take k)) ++ patP x by
      rw [patS_succ hx]
      exact ByteArray.ext (Array.ext' (by simp [bsF])))
    have hpl := patS_le L HZ.out k
    have hxz := HZ.out x (List.mem_of_getElem? hx)
    have hqz := quoS_size x.text
    have hpz : (bsF (patS (L.take k))).size = (patS (L.take k)).length := by rw [Lib.size_eq]; simp [bsF]
    have hpl2 : (bsF (patS (L.take k))).size ≤ 2000000 := by omega
    clear hc hx hpl hpz
    obtain ⟨kd, tx, nm, op, wA, wn, wk, q⟩ := x
    dsimp only at hc0 hc1 hxz hqz
    by_cases hkd : kd = 1
    · have HPP := hide (show patP ⟨kd, tx, nm, op, wA, wn, wk, q⟩ = tx from if_pos hkd)
      subst hkd
      have hcat : (bsF (patS (L.take k))).size + tx.size ≤ 3000000 := by omega
      go_wp2
      exact ⟨⟨k + 1, by go_num, by omega, by rw [HTS.out, HPP.out], HBE⟩, by simp [intOf]; omega⟩
    · have HPP := hide (show patP ⟨kd, tx, nm, op, wA, wn, wk, q⟩ = quoS tx from if_neg hkd)
      have kn : ¬ kd = 1 := hkd
      have kf : (kd == 1) = false := by simpa using hkd
      have HQU := hide (Qt.rquote_any tx wo hxz)
      have hcat : (bsF (patS (L.take k))).size + (quoS tx).size ≤ 3000000 := by omega
      clear hkd
      go_wp2_with fail
      refine HQU.out.mono ?_
      rintro e wq ⟨rfl, hbq⟩
      have HB2 := hide (HBE.out.trans (hbq.mono HBE.out.size))
      rw [show Qt.sb (Qt.qb (bt tx) tx.size) = quoS tx from rfl]
      clear hbq
      go_wp2
      exact ⟨⟨k + 1, by go_num, by omega, by rw [HTS.out, HPP.out], HB2⟩, by simp [intOf]; omega⟩
end Go.Proofs.Ythcgnfoijemcbaa
