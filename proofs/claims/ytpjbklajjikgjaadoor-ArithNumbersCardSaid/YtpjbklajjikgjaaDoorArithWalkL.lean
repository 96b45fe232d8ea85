/- Walks of package arith: all levels, within all parentheses. -/
import Derived.Test.YtpjbklajjikgjaaDoorArithWalkK
namespace Go.Proofs.YtpjbklajjikgjaaDoor
open Go.RowKit Go.Deep

theorem binary_levels (A : Option Addr) (P : List Pr) (c B g : Nat) (s : ByteArray) (d : Nat) (E : Ar.Ex) (hE : Ar.SufE E) (hd : d ≤ 40) (h40 : d = 40 → E = fun _ _ => .error 3) (hb : d < 40 → BCon A P c B g s (d + 1) 0 E) (hB : B ≤ g) (hs : s.size ≤ 100000)
    (hl : P.length ≤ maxLen) (hv : ∀ x ∈ P, x.2.size ≤ maxLen) : ∀ k, k ≤ 10 → BCon A P c B g s d (10 - k) (Ar.binF (KP P) E k)
  | 0, _ => binary_top A P c B g s d E (fun i z w h hP hi => unary_any A P c B g s d E (primary_any A P c B g s d E hd h40 hb hB hs hl hv) hB hs i z w h hP hi) hB
  | k + 1, hk => by
    have ih := binary_levels A P c B g s d E hE hd h40 hb hB hs hl hv k (by omega)
    rw [show 10 - k = (10 - (k + 1)) + 1 from by omega] at ih
    exact binary_step A P c B g s d E hE (10 - (k + 1)) k (by omega) ih hB hs
/-- the whole of an expression at a depth -/
theorem binary_all (A : Option Addr) (P : List Pr) (c B g : Nat) (s : ByteArray) (hB : B ≤ g) (hs : s.size ≤ 100000) (hl : P.length ≤ maxLen) (hv : ∀ x ∈ P, x.2.size ≤ maxLen) :
    ∀ r d, d + r = 40 → BCon A P c B g s d 0 (Ar.exB (KP P) (r + 1))
  | 0, d, h => by
    have := binary_levels A P c B g s d (Ar.exB (KP P) 0) (Ar.exB_suf _ 0) (by omega) (fun _ => rfl) (fun hlt => by omega) hB hs hl hv 10 (by omega)
    exact this
  | r + 1, d, h => by
    have ih := binary_all A P c B g s hB hs hl hv r (d + 1) (by omega)
    have := binary_levels A P c B g s d (Ar.exB (KP P) (r + 1)) (Ar.exB_suf _ (r + 1)) (by omega) (fun hd => by omega) (fun _ => ih) hB hs hl hv 10 (by omega)
    exact this
end Go.Proofs.YtpjbklajjikgjaaDoor
