/- Walks of the reference's small functions on patterns: one, is. -/
import Derived.Test.YthlboecjlelemaaQBase
import Derived.Test.YthlboecjlelemaaGlobMath
namespace Go.Proofs.Ythlboecjlelemaa
open Go.RowKit Go.Deep Qm.Glob
attribute [local go_sem] bt_eq

theorem beq_cast (a b : Nat) : ((a : Int) == (b : Int)) = (a == b) := by
  rw [Bool.eq_iff_iff]; simp only [beq_iff_eq]; omega
theorem take_snoc' {α : Type} {l : List α} {k : Nat} {a : α} (h : l[k]? = some a) : l.take (k + 1) = l.take k ++ [a] := by
  rw [List.take_add_one, h]; rfl
set_option maxRecDepth 100000 in
set_option maxHeartbeats 400000 in
theorem rone_any (s : ByteArray) (i : Nat) (w : World) (hs : s.size ≤ 1000) (hi : i < s.size) :
    Calls Try.prog 70 #[.string s, .int .i64 i] w fun e w' => e = .returned (.tuple #[.int .u8 (rOne (bt s) s.size i).1, .int .i64 (rOne (bt s) s.size i).2]) ∧ w = w' := by
  by_cases h1 : bt s i = 92
  · have g1 : (((bt s i : Nat) : Int) == 92) = true := by simp only [beq_iff_eq]; omega
    have H1 := hide h1
    clear h1
    by_cases h2 : i + 1 < s.size
    all_goals
      have H2 := hide h2
      go_enter Try.func70, Try.ntmps70
      go_wp2
      go_ret2
      refine ⟨?_, rfl⟩
      have h1 := H1.out
      have h2 := H2.out
      go_light
    · rw [rOne, if_pos ⟨h1, h2⟩]; rfl
    · rw [rOne, if_neg (fun h => h2 h.2)]; rfl
  · have g1 : (((bt s i : Nat) : Int) == 92) = false := by simp only [beq_eq_false_iff_ne]; omega
    have H1 := hide h1
    clear h1
    go_enter Try.func70, Try.ntmps70
    go_wp2
    go_ret2
    refine ⟨?_, rfl⟩
    have h1 := H1.out
    go_light
    rw [rOne, if_neg (fun h => h1 h.1)]; rfl

/-- bytes of a slice of the call's own: readable -/
def BytesAt (w : World) (v : Value) (l : List Nat) : Prop :=
  ∃ A c, v = .slice A l.length c ∧ ∀ k x, l[k]? = some x → ∃ g, A = some ⟨g, 0, none⟩ ∧ g < w.heap.size ∧ w.cell? ⟨g, k, none⟩ = some (.int .u8 (x : Nat))

set_option maxRecDepth 100000 in
set_option maxHeartbeats 1000000 in
theorem is_any (x : RI) (vlo vhi : Value) (c : Nat) (w : World) (hl : x.lo.length ≤ 1000) (hlh : x.lo.length = x.hi.length) (hlo : BytesAt w vlo x.lo) (hhi : BytesAt w vhi x.hi) :
    Calls Try.prog 68 #[.agg #[.int .i64 x.kind, .int .u8 x.c, .bool x.nt, vlo, vhi], .int .u8 c] w fun e w' => e = .returned (.bool (x.is c)) ∧ Below w.heap.size w w' := by
  obtain ⟨A, ca, rfl, hA⟩ := hlo
  obtain ⟨B, cb, rfl, hB⟩ := hhi
  have HA := hide hA
  have HB := hide hB
  clear hA hB
  obtain ⟨kind, xc, nt, lo, hi⟩ := x
  simp only at hl hlh HA HB ⊢
  have HL := hide hlh
  clear hlh
  by_cases h0 : kind = 0
  · subst h0
    go_enter Try.func68, Try.ntmps68
    go_wp2
    go_ret
    refine ⟨?_, (Below.refl _ _).alloc (Nat.le_refl _) _⟩
    show Ending.returned (.bool ((xc : Int) == (c : Int))) = _
    rw [beq_cast]
    rfl
  · have g0 : ((kind : Int) == 0) = false := by simp only [beq_eq_false_iff_ne]; omega
    by_cases h2 : kind = 2
    · subst h2
      clear h0
      go_enter Try.func68, Try.ntmps68
      go_wp2
      go_ret
      exact ⟨rfl, (Below.refl _ _).alloc (Nat.le_refl _) _⟩
    · have g2 : ((kind : Int) == 2) = false := by simp only [beq_eq_false_iff_ne]; omega
      have HK := hide (show (RI.mk kind xc nt lo hi).is c = (inR lo hi c != nt) by simp only [RI.is]; rw [if_neg h0, if_neg h2])
      clear h0 h2
      go_enter Try.func68, Try.ntmps68
      go_wp2
      go_loop [5, 6] (fun v5 v6 => ∃ k : Nat, k ≤ lo.length ∧ v6 = .int .i64 k ∧ v5 = .bool (inR (lo.take k) (hi.take k) c)) (fun _ v6 => lo.length - (intOf v6).toNat)
      case atStart => exact ⟨0, Nat.zero_le _, rfl, rfl⟩
      case round =>
        obtain ⟨k, hk, rfl, rfl⟩ := hrel
        by_cases hlt : k < lo.length
        · obtain ⟨a, ha⟩ : ∃ a, lo[k]? = some a := ⟨lo[k], List.getElem?_eq_getElem hlt⟩
          obtain ⟨b, hb⟩ : ∃ b, hi[k]? = some b := ⟨hi[k]'(by have := HL.out; omega), List.getElem?_eq_getElem (by have := HL.out; omega)⟩
          obtain ⟨ga, rfl, hga, hca⟩ := HA.out k a ha
          obtain ⟨gb, rfl, hgb, hcb⟩ := HB.out k b hb
          have hka : k < hi.length := by have := HL.out; omega
          generalize hin : inR (lo.take k) (hi.take k) c = r
          have HIN := hide hin
          have HA1 := hide ha
          have HB1 := hide hb
          clear hin ha hb
          cases r with
          | true =>
            --{A
            go_wp2
            go_round
            case rel =>
              refine ⟨k + 1, by omega, by go_num, ?_⟩
              rw [take_snoc' HA1.out, take_snoc' HB1.out, inR_snoc _ _ _ _ _ (by have := HL.out; simp only [List.length_take]; omega), HIN.out]
              simp
            case measure => simp [intOf]; omega
            --}A
          | false =>
            by_cases hac : a ≤ c
            all_goals
              go_wp2
              go_round
              case rel =>
                refine ⟨k + 1, by omega, by go_num, ?_⟩
                rw [take_snoc' HA1.out, take_snoc' HB1.out, inR_snoc _ _ _ _ _ (by have := HL.out; simp only [List.length_take]; omega), HIN.out]
                simp [hac]
              case measure => simp [intOf]; omega
        · obtain rfl : k = lo.length := by omega
          go_wp2
          go_ret
          refine ⟨?_, (Below.refl _ _).alloc (Nat.le_refl _) _⟩
          rw [HK.out]
          have e2 : hi.take lo.length = hi := by rw [HL.out]; exact List.take_length
          rw [e2]
          rfl
end Go.Proofs.Ythlboecjlelemaa
