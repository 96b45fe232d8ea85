/- Walks of strip's Back. -/
import Derived.Test.YthlboecjlelemaaStripWalkC
import Derived.Test.YthlboecjlelemaaStripWalkD
import Derived.Test.YthlboecjlelemaaGlobWalkG
namespace Go.Proofs.Ythlboecjlelemaa
open Go.RowKit Go.Deep Qm.Glob
attribute [local go_sem] bt_eq strOfNums_size sb_size

theorem ItemsAt.mono {w w' : World} {A : Option Addr} {B B' : Nat} {l : List GI} (h : ItemsAt w A B l) (hb : Below B w w') (hB : B ≤ B') : ItemsAt w' A B' l := fun k x hx => by
  obtain ⟨g, e, hg, hc⟩ := h k x hx
  exact ⟨g, e, by omega, fun j u hu => (hb.cell (p := ⟨g, k * 8 + j, none⟩) hg).trans (hc j u hu)⟩
theorem RowF.below {w w' : World} {g n B : Nat} {f : Nat → Value} (h : RowF w g n f) (hb : Below B w w') (hg : g < B) : RowF w' g n f :=
  ⟨fun i hi => (hb.cell (p := ⟨g, i, none⟩) hg).trans (h.1 i hi), fun i hi => (hb.frozen (p := ⟨g, i, none⟩) hg).trans (h.2 i hi)⟩
theorem conv_row {W : World} {g n cap : Nat} {f : Nat → Nat} (h : RowF W g n (fun q => .int .u8 (f q : Nat))) : (convert 30 9 (.slice (some ⟨g, 0, none⟩) n cap)).run Try.prog W = .ok (.string (sb ((List.range n).map f))) W := by
  have := run_convert_bytes_arg W 30 5 Try.underlying30 Try.underlying5 g 0 n cap ((List.range n).map fun q => ((f q : Nat) : Int)) (by simp) (fun i hi => by
    rw [Nat.zero_add, h.1 i hi]
    simp [List.getD_eq_getElem?_getD, hi]) 9 Try.underlying9
  rw [this]
  simp [sb, List.map_map, Function.comp_def]
/-- a text turned round -/
def rvS (s : ByteArray) : ByteArray := sb ((List.range s.size).map fun q => bt s (s.size - 1 - q))
theorem rvS_size (s : ByteArray) : (rvS s).size = s.size := by simp [rvS, sb_size]
/-- how much Back takes off -/
def bkN (s p : ByteArray) (most : Bool) : Nat := (pickO (EL (gItems (bt p) p.size).reverse (bt (rvS s))) most (s.size + 1)).getD 0
theorem bkN_le (s p : ByteArray) (most : Bool) : bkN s p most ≤ s.size := pickO_lt _ _ _
def gBack (s p : ByteArray) (most : Bool) : ByteArray := s.extract 0 (s.size - bkN s p most)
theorem bytes_row (w : World) (s : ByteArray) (C : Nat) : RowF (w.alloc (.cells (bytesRow s C) 5 ((bytesRow s C).size, (bytesRow s C).size + 1))).drew w.heap.size s.size (fun q => .int .u8 (bt s q : Nat)) := by
  refine ⟨fun j hj => ?_, fun j hj => ?_⟩
  · show (w.alloc (.cells (bytesRow s C) 5 ((bytesRow s C).size, (bytesRow s C).size + 1))).cell? ⟨w.heap.size, j, none⟩ = _
    rw [World.cell?_alloc_mark, bytesRow_at s C j hj]
    show _ = some (Value.int .u8 (bt s j : Nat))
    rw [← bt_eq s j hj]
    rfl
  · have hl : s.size ≤ (bytesRow s C).size := by simp [bytesRow]
    show (w.alloc (.cells (bytesRow s C) 5 ((bytesRow s C).size, (bytesRow s C).size + 1))).frozen? ⟨w.heap.size, j, none⟩ = false
    rw [World.frozen?_alloc_mark]
    simp
    omega

set_option maxRecDepth 100000 in
set_option maxHeartbeats 1000000 in
theorem back_any (s p : ByteArray) (most : Bool) (w : World) (hp : p.size ≤ 1000) (hs : s.size ≤ 1000) :
    Calls Try.prog 20 #[.string s, .string p, .bool most] w fun e w' => e = .returned (.string (gBack s p most)) ∧ Below w.heap.size w w' := by
  go_enter Try.func20, Try.ntmps20
  go_wp2_with fail
  refine (items_any p w hp).mono ?_
  rintro e w1 ⟨v, rfl, hown, hb⟩
  obtain ⟨A, c, rfl, hrev⟩ := revI_own w1 w.heap.size v (gItems (bt p) p.size) (Nat.le_trans (gItems_len _ _) (by omega)) hown
  have HREV := hide hrev
  have HB := hide hb
  clear hrev hb hown
  go_wp2_with fail
  refine HREV.out.mono ?_
  rintro e w2 ⟨rfl, hat, hsz, hbel⟩
  have HAT := hide hat
  have HB2 := hide (hbel _ _ HB.out (Nat.le_refl _))
  have HS := hide hsz
  have HS1 := hide HB.out.size
  clear hat hbel hsz HREV HB
  have hsb := run_bytes_of_string (P := Try.prog) w2 9 30 5 s Try.underlying9 Try.underlying30 Try.underlying5
  generalize hC : grownCap w2 s.size 0 5 = C at hsb
  have HC := hide hC
  clear hC
  go_wp2_with fail
  have hb3 : Below w2.heap.size w2 ((w2.alloc (.cells (bytesRow s C) 5 ((bytesRow s C).size, (bytesRow s C).size + 1))).drew) := ((Below.refl _ _).alloc (Nat.le_refl _) _).drew
  have hs3 : w2.heap.size < ((w2.alloc (.cells (bytesRow s C) 5 ((bytesRow s C).size, (bytesRow s C).size + 1))).drew).heap.size := by simp
  refine (revB_any w2.heap.size s.size C (bt s) _ (by omega) (bytes_row w2 s C)).mono ?_
  rintro e w4 ⟨rfl, hr, hg⟩
  generalize ((w2.alloc (.cells (bytesRow s C) 5 ((bytesRow s C).size, (bytesRow s C).size + 1))).drew) = w3 at hb3 hs3 hg
  clear hsb HC
  have hb4 : Below w2.heap.size w2 w4 := hb3.trans (below_of_gb hg (by omega) (Nat.le_refl _))
  have hcv := conv_row (cap := C) hr
  rw [show sb ((List.range s.size).map fun q => bt s (s.size - 1 - q)) = rvS s from rfl] at hcv
  have HAT4 := hide (HAT.out.mono (B' := w4.heap.size) (hb4.mono HS.out) (Nat.le_trans HS.out hb4.size))
  have HB4 := hide (below_up HB2.out hb4 HB2.out.size)
  clear HAT HB2 HS HS1 hb3 hs3 hg hb4 hr
  have hrz := rvS_size s
  have HRZ := hide hrz
  clear hrz
  go_wp2_with fail
  have hends := ends_any (rvS s) A c (gItems (bt p) p.size).reverse w4 (by rw [HRZ.out]; exact hs) (by rw [List.length_reverse]; exact Nat.le_trans (gItems_len _ _) hp) HAT4.out
  rw [List.length_reverse, HRZ.out] at hends
  refine hends.mono ?_
  rintro e w5 ⟨g, rfl, hg, hrow, hb5⟩
  have HROW := hide (hrow.congr (g := fun i => .bool (EL (gItems (bt p) p.size).reverse (bt (rvS s)) i)) fun i _ => by unfold EL; rw [List.length_reverse]; rfl)
  have HB5 := hide (below_up HB4.out hb5 HB4.out.size)
  clear hrow hb5 HAT4 HB4 hg hcv hends
  go_wp2_with fail
  refine (first_any g (s.size + 1) (EL (gItems (bt p) p.size).reverse (bt (rvS s))) most w5 (by omega) HROW.out).mono ?_
  rintro e w6 ⟨rfl, rfl⟩
  have hle := bkN_le s p most
  have HF := hide (show gBack s p most = s.extract 0 (s.size - bkN s p most) from rfl)
  clear HROW
  rw [show (pickO (EL (gItems (bt p) p.size).reverse (bt (rvS s))) most (s.size + 1)).getD 0 = bkN s p most from rfl]
  generalize bkN s p most = k at hle HF ⊢
  obtain ⟨m, hm⟩ : ∃ m, s.size = m + k := ⟨s.size - k, by omega⟩
  go_wp2
  go_ret
  exact ⟨by rw [HF.out, show s.size - k = m from by omega]; rfl, HB5.out⟩
end Go.Proofs.Ythlboecjlelemaa
