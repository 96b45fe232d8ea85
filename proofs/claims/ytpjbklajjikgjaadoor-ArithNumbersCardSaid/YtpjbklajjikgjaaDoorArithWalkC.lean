/- Walk of package arith: next. -/
import Derived.Test.YtpjbklajjikgjaaDoorArithWalkB
namespace Go.Proofs.YtpjbklajjikgjaaDoor
open Go.RowKit Go.Deep

theorem LV.drewN {w : World} {b B : Nat} (h : LV w b B) (n : Nat) : LV (w.drewN n) b B := h
/-- the longer one that stands ahead -/
def bstep (u : List UInt8) (b o : ByteArray) : ByteArray := if b.size < o.size then (if Lib.hasPrefix u o.data.toList = true then o else b) else b
def bfold (u : List UInt8) (b : ByteArray) (l : List ByteArray) : ByteArray := l.foldl (bstep u) b
def nxS (u : List UInt8) : ByteArray := (lvs.take 10).foldl (bfold u) ⟨#[]⟩
theorem lvs_take {k : Nat} {L : List ByteArray} (h : lvs[k]? = some L) : lvs.take (k + 1) = lvs.take k ++ [L] := by
  rw [List.take_add_one, h]; rfl
theorem take_one {α : Type} {l : List α} {k : Nat} {x : α} (h : l[k]? = some x) : l.take (k + 1) = l.take k ++ [x] := by
  rw [List.take_add_one, h]; rfl
theorem lvs_op {k j : Nat} {L : List ByteArray} {o : ByteArray} (h : lvs[k]? = some L) (hj : L[j]? = some o) : 1 ≤ o.size ∧ o.size ≤ 2 := by
  have h1 : L ∈ lvs := List.mem_of_getElem? h
  have h2 : o ∈ L := List.mem_of_getElem? hj
  have : ∀ L ∈ lvs, ∀ o ∈ L, 1 ≤ o.size ∧ o.size ≤ 2 := by decide
  exact this L h1 o h2
theorem lvs_len {k : Nat} {L : List ByteArray} (h : lvs[k]? = some L) : L.length ≤ 4 := by
  have h1 : L ∈ lvs := List.mem_of_getElem? h
  have : ∀ L ∈ lvs, L.length ≤ 4 := by decide
  exact this L h1
theorem bstep_size (u : List UInt8) (b o : ByteArray) (hb : b.size ≤ 2) (ho : o.size ≤ 2) : (bstep u b o).size ≤ 2 := by
  unfold bstep
  split
  · split <;> omega
  · omega
set_option maxRecDepth 100000 in
set_option maxHeartbeats 2000000 in
theorem next_any (g : Nat) (s : ByteArray) (i : Nat) (lv : Value) (d : Nat) (z : Bool) (w : World) (h : RD w g s i lv d z) (hi : i ≤ s.size) (hs : s.size ≤ 100000) :
    Calls Tryd.prog 36 #[.pointer (some ⟨g, 0, none⟩)] w fun e w' => e = .returned (.string (nxS (Ar.sk (dr s i)))) ∧ ∃ j, RD w' g s j lv d z ∧ i ≤ j ∧ j ≤ s.size ∧ dr s j = Ar.sk (dr s i) ∧ Gr w w' g := by
  have H := hide h
  clear h
  go_enter Tryd.func36, Tryd.ntmps36
  go_wp2_with fail
  refine (blank_any g s i lv d z w H.out hi hs).mono ?_
  rintro e w1 ⟨rfl, j, hr, hij, hj, hsk, hgr⟩
  have HR := hide hr
  have HS := hide hsk
  have HG := hide hgr
  clear hr hsk hgr H
  go_wp2_with fail
  refine (levels_any w1).mono ?_
  rintro e w2 ⟨⟨b, rfl, hlv⟩, hb2⟩
  have HR2 := hide (HR.out.below hb2)
  have HG2 := hide (gr_below' HG.out hb2)
  have HL := hide hlv
  clear hlv hb2 HR HG
  obtain ⟨u, hu⟩ : ∃ u, dr s j = u := ⟨_, rfl⟩
  have HU := hide hu
  have HUS := hide (HS.out.symm.trans hu)
  clear hu
  go_wp2
  go_loopg [3, 12] 10 (fun n v3 v12 wr => ∃ (k : Nat) (bs : ByteArray), n = 10 - k ∧ k ≤ 10 ∧ v12 = .int .i64 k ∧ v3 = .string bs ∧ Hid (bs = (lvs.take k).foldl (bfold u) ⟨#[]⟩) ∧ bs.size ≤ 2 ∧ RD wr g s j lv d z ∧ LV wr b w1.heap.size ∧ Gr w wr g)
  case atStart => exact ⟨0, ⟨#[]⟩, rfl, by omega, rfl, rfl, rfl, by decide, HR2.out, HL.out, HG2.out⟩
  case round =>
    obtain ⟨k, bs, hgk, hk, rfl, rfl, HBS, hbs, hr, hl, hg⟩ := hrel
    have HR := hide hr
    have HLV := hide hl
    have HG := hide hg
    clear hr hl hg HR2 HL HG2
    by_cases hlt : k < 10
    · obtain ⟨L, hL⟩ : ∃ L, lvs[k]? = some L := ⟨lvs[k]'hlt, List.getElem?_eq_getElem _⟩
      obtain ⟨a, _, hc, hsr⟩ := HLV.out.2 k L hL
      have hlen := lvs_len hL
      have HLk := hide (lvs_take hL)
      have HOP := hide (fun j o h => lvs_op (j := j) (o := o) hL h)
      obtain ⟨m, hm⟩ : ∃ m, L.length = m := ⟨_, rfl⟩
      rw [hm] at hc hlen
      have HM := hide hm
      have HSR := hide hsr
      clear hm hsr hL
      have hkb : decide ((k : Int) < 10) = true := by simp only [decide_eq_true_eq]; omega
      obtain ⟨wo, rfl⟩ : ∃ wo : World, wo = wr := ⟨_, rfl⟩
      go_wp2
      go_loopg [3, 18] m (fun n v3 v18 wr => ∃ (q : Nat) (bs' : ByteArray), n = m - q ∧ q ≤ m ∧ v18 = .int .i64 q ∧ v3 = .string bs' ∧ Hid (bs' = bfold u bs (L.take q)) ∧ bs'.size ≤ 2 ∧ RD wr g s j lv d z ∧ LV wr b w1.heap.size ∧ SR wr (some ⟨a, 0, none⟩) L ∧ Gr w wr g)
      case atStart => exact ⟨0, bs, rfl, by omega, rfl, rfl, rfl, hbs, HR.out, HLV.out, HSR.out, HG.out⟩
      case round =>
        obtain ⟨q, bs', hgq, hq, rfl, rfl, HBS', hbs', hr, hl, hsr, hg⟩ := hrel
        have hc0 := hr.c0
        have hc1 := hr.c1
        have HR' := hide hr
        have HLV' := hide hl
        have HSR' := hide hsr
        have HG' := hide hg
        clear hr hl hsr hg HR HLV HSR HG
        by_cases hqm : q < m
        · obtain ⟨o, ho⟩ : ∃ o, L[q]? = some o := ⟨L[q]'(by have := HM.out; omega), List.getElem?_eq_getElem _⟩
          obtain ⟨ga, oa, hea, hga, hca⟩ := HSR'.out q o ho
          injection hea with hea
          injection hea with h1 h2
          subst h1 h2
          rw [Nat.zero_add] at hca
          have hos := HOP.out q o ho
          have HT := hide (take_one ho)
          have HBF := hide (show bfold u bs (L.take (q + 1)) = bstep u bs' o by rw [HT.out, bfold, List.foldl_append]; show bstep u (bfold u bs (L.take q)) o = _; rw [← HBS'.out])
          have hz2 := bstep_size u bs' o hbs' hos.2
          clear ho HT
          have hji : (0 : Int) ≤ (j : Int) := by omega
          have hjs : (j : Int) ≤ (s.size : Int) := by omega
          by_cases hlo : bs'.size < o.size
          · have hd : decide ((bs'.size : Nat) < (o.size : Nat)) = true := by simpa using hlo
            have hxd : List.take (s.size - j) (List.drop j s.data.toList) = u := by rw [← HU.out, List.take_of_length_le (by simp)]; rfl
            cases hp : Lib.hasPrefix u o.data.toList with
            | true =>
              have HX := hide (show bstep u bs' o = o by rw [bstep, if_pos hlo, if_pos hp])
              have hpp : Lib.hasPrefix (List.take (s.size - j) (List.drop j s.data.toList)) o.data.toList = true := by rw [hxd, hp]
              clear hxd hp
              go_wp2
              go_quiet ((go_at_call 42; exact Calls.quiet_of_same (Tryd.strings_HasPrefix _ _ _)))
              go_wp2
              go_roundg (m - (q + 1))
              case rel => exact ⟨q + 1, o, rfl, by omega, by go_num, rfl, by rw [HBF.out, HX.out]; exact rfl, by omega, HR'.out.drewN _, HLV'.out, HSR'.out, gb_drewN HG'.out _⟩
              case measure => omega
            | false =>
              have HX := hide (show bstep u bs' o = bs' by rw [bstep, if_pos hlo, if_neg (by rw [hp]; simp)])
              have hpp : Lib.hasPrefix (List.take (s.size - j) (List.drop j s.data.toList)) o.data.toList = false := by rw [hxd, hp]
              clear hxd hp
              go_wp2
              go_quiet ((go_at_call 42; exact Calls.quiet_of_same (Tryd.strings_HasPrefix _ _ _)))
              go_wp2
              go_roundg (m - (q + 1))
              case rel => exact ⟨q + 1, bs', rfl, by omega, by go_num, rfl, by rw [HBF.out, HX.out]; exact rfl, by omega, HR'.out.drewN _, HLV'.out, HSR'.out, gb_drewN HG'.out _⟩
              case measure => omega
          · have HX := hide (show bstep u bs' o = bs' by rw [bstep, if_neg hlo])
            have hd : decide ((bs'.size : Nat) < (o.size : Nat)) = false := by simpa using hlo
            go_wp2
            go_quiet (fail)
            go_wp2
            go_roundg (m - (q + 1))
            case rel => exact ⟨q + 1, bs', rfl, by omega, by go_num, rfl, by rw [HBF.out, HX.out]; exact rfl, by omega, HR'.out.drewN _, HLV'.out, HSR'.out, gb_drewN HG'.out _⟩
            case measure => omega
        · obtain rfl : q = m := by omega
          go_wp2
          go_roundg (10 - (k + 1))
          case rel => exact ⟨k + 1, bs', rfl, by omega, by go_num, rfl, by rw [HLk.out, List.foldl_append, ← HBS.out, HBS'.out, List.take_of_length_le (by rw [HM.out]; exact Nat.le_refl _)]; rfl, by omega, HR'.out, HLV'.out, HG'.out⟩
          case measure => omega
    · obtain rfl : k = 10 := by omega
      go_wp2
      go_ret
      exact ⟨by rw [HBS.out, HUS.out]; rfl, j, HR.out, hij, hj, HS.out, HG.out⟩
end Go.Proofs.YtpjbklajjikgjaaDoor
