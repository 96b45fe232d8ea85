/- Walks of package glob's Plain and of the reference's. -/
import Derived.Test.YthlboecjlelemaaGlobWalkF
import Derived.Test.YthlboecjlelemaaRefWalkF
namespace Go.Proofs.Ythlboecjlelemaa
open Go.RowKit Go.Deep Qm.Glob
attribute [local go_sem] bt_eq

/-- a text out of its bytes -/
def sb (l : List Nat) : ByteArray := strOfNums (l.map fun n : Nat => (n : Int))
theorem sb_size (l : List Nat) : (sb l).size = l.length := by simp [sb, strOfNums_size]
theorem conv_own {W : World} {base : Nat} {v : Value} {l : List Nat} (h : OwnB W base v l) : (convert 30 9 v).run Try.prog W = .ok (.string (sb l)) W := by
  rcases h.2 with ⟨rfl, hn⟩ | ⟨g, cap, cur, rfl, _, hh, _⟩
  · have hl : l = [] := List.eq_nil_of_length_eq_zero hn
    subst hl
    exact run_convert_bytes_nil W 30 5 Try.underlying30 Try.underlying5 0 0 _ Try.underlying9
  · refine run_convert_bytes_arg W 30 5 Try.underlying30 Try.underlying5 g 0 l.length cap (l.map fun n : Nat => (n : Int)) (by simp) (fun i hi => ?_) _ Try.underlying9
    rw [Nat.zero_add, World.ownsRow.cellAt h i (by omega)]
    simp [nbytes, List.getD_eq_getElem?_getD, hi]
theorem below_gb {B : Nat} {wr w' : World} {o : Obj} {r : Option Nat} (hg : (wr.alloc o).grownBy w' r) (hr : ∀ k, r = some k → B ≤ k) (hB : B ≤ wr.heap.size) : Below B wr w' :=
  ((Below.refl B wr).alloc hB o).grown hg (by simp; omega) hr
def plAll (l : List GI) : Bool := l.all GI.plain
def plBytes (l : List GI) : List Nat := l.map GI.c
/-- what Plain answers -/
def plVal (ok : Bool) (l : List Nat) : Value := if ok then .tuple #[.string (sb l), .bool true] else .tuple #[.string ⟨#[]⟩, .bool false]
theorem plAll_no {l : List GI} {j : Nat} {x : GI} (hx : l[j]? = some x) (h : x.plain = false) : plAll l = false := by
  simp only [plAll, List.all_eq_false]
  exact ⟨x, List.mem_of_getElem? hx, by simp [h]⟩

def rAll (l : List RI) : Bool := l.all fun x => x.kind == 0
def rBytes (l : List RI) : List Nat := l.map RI.c
theorem rAll_no {l : List RI} {j : Nat} {x : RI} (hx : l[j]? = some x) (h : x.kind ≠ 0) : rAll l = false := by
  simp only [rAll, List.all_eq_false]
  exact ⟨x, List.mem_of_getElem? hx, by simp [h]⟩

end Go.Proofs.Ythlboecjlelemaa
