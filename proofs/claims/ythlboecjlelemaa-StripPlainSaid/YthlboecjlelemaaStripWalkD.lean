/- Walks of strip's Front and of the reference's. -/
import Derived.Test.YthlboecjlelemaaStripWalkA
import Derived.Test.YthlboecjlelemaaStripPlain
import Derived.Test.YthlboecjlelemaaGlobWalkF
import Derived.Test.YthlboecjlelemaaRefWalkF
namespace Go.Proofs.Ythlboecjlelemaa
open Go.RowKit Go.Deep Qm.Glob
attribute [local go_sem] bt_eq

/-- how much Front takes off -/
def frN (s p : ByteArray) (most : Bool) : Nat := (pickO (EL (gItems (bt p) p.size) (bt s)) most (s.size + 1)).getD 0
theorem frN_le (s p : ByteArray) (most : Bool) : frN s p most ≤ s.size := pickO_lt _ _ _
def gFront (s p : ByteArray) (most : Bool) : ByteArray := s.extract (frN s p most) s.size

set_option maxRecDepth 100000 in
set_option maxHeartbeats 400000 in
theorem front_any (s p : ByteArray) (most : Bool) (w : World) (hp : p.size ≤ 1000) (hs : s.size ≤ 1000) :
    Calls Try.prog 18 #[.string s, .string p, .bool most] w fun e w' => e = .returned (.string (gFront s p most)) ∧ Below w.heap.size w w' := by
  go_enter Try.func18, Try.ntmps18
  go_wp2_with fail
  refine (items_any p w hp).mono ?_
  rintro e w1 ⟨v, rfl, hown, hb⟩
  obtain ⟨A, c, rfl, hat⟩ := items_of_own hown
  have HAT := hide hat
  have HB := hide hb
  clear hat hb hown
  go_wp2_with fail
  refine (ends_any s A c (gItems (bt p) p.size) w1 hs (Nat.le_trans (gItems_len _ _) hp) HAT.out).mono ?_
  rintro e w2 ⟨g, rfl, hg, hrow, hb2⟩
  have HROW := hide hrow
  have HB2 := hide (below_up HB.out hb2 HB.out.size)
  clear hrow hb2 HAT HB hg
  go_wp2_with fail
  refine (first_any g (s.size + 1) (EL (gItems (bt p) p.size) (bt s)) most w2 (by omega) HROW.out).mono ?_
  rintro e w3 ⟨rfl, rfl⟩
  have hle := frN_le s p most
  have HF := hide (show gFront s p most = s.extract (frN s p most) s.size from rfl)
  clear HROW
  rw [show (pickO (EL (gItems (bt p) p.size) (bt s)) most (s.size + 1)).getD 0 = frN s p most from rfl]
  generalize frN s p most = k at hle HF ⊢
  go_wp2
  go_ret
  exact ⟨by rw [HF.out]; rfl, HB2.out⟩

set_option maxRecDepth 100000 in
set_option maxHeartbeats 400000 in
theorem rfront_any (s p : ByteArray) (most : Bool) (w : World) (hp : p.size ≤ 1000) (hs : s.size ≤ 1000) :
    Calls Try.prog 19 #[.string s, .string p, .bool most] w fun e w' => e = .returned (.string (gFront s p most)) ∧ Below w.heap.size w w' := by
  go_enter Try.func19, Try.ntmps19
  go_wp2_with fail
  refine (ritems_any p w hp).mono ?_
  rintro e w1 ⟨v, xs, rfl, hown, hris, hb⟩
  obtain ⟨A, c, rfl, hat⟩ := ritems_of_own hown hris (fun x hx => by have := rIt_ok _ _ _ _ x hx; omega)
  have HAT := hide hat
  have HB := hide hb
  clear hat hb hown hris
  go_wp2_with fail
  refine (fronts_any s A c (rItems (bt p) p.size) w1 hs (Nat.le_trans (rItems_len _ _) hp) HAT.out).mono ?_
  rintro e w2 ⟨g, rfl, hg, hrow, hb2⟩
  have HROW := hide (hrow.congr (g := fun i => .bool (EL (gItems (bt p) p.size) (bt s) i)) fun i _ => by rw [pair_same (pair_items (bt p) p.size) (bt s) (bt_lt s) i]; rfl)
  have HB2 := hide (below_up HB.out hb2 HB.out.size)
  clear hrow hb2 HAT HB hg
  go_wp2_with fail
  refine (off_any g (s.size + 1) (EL (gItems (bt p) p.size) (bt s)) most w2 (by omega) HROW.out).mono ?_
  rintro e w3 ⟨rfl, rfl⟩
  have hle := frN_le s p most
  have HF := hide (show gFront s p most = s.extract (frN s p most) s.size from rfl)
  unfold frN at hle HF
  clear HROW
  generalize pickO (EL (gItems (bt p) p.size) (bt s)) most (s.size + 1) = o at hle HF ⊢
  cases o with
  | none =>
    simp only [pickI]
    go_wp2
    go_ret
    refine ⟨?_, HB2.out⟩
    rw [HF.out]
    simp
  | some k =>
    simp only [pickI]
    simp only [Option.getD_some] at hle HF
    have hk0 : (decide ((k : Int) < 0)) = false := by simp
    go_wp2
    go_ret
    exact ⟨by rw [HF.out]; rfl, HB2.out⟩
end Go.Proofs.Ythlboecjlelemaa
