/-
  NARROWER THAN 'FOR EVERY INPUT', by the rows' own cells (each row's printed sentence says how): FieldWhole: loops · FieldSplits: loops.
  DERIVED. THE GIVEN ROWS OF THIS SEAT. 8 by the template 'for every input the law returns true; each argument reads behind the call as it read before'; 0 by the template 'total and deterministic' (their statements: YthlboecjlelemaaTotals.lean).
  GIVEN WITH THE SEED: the statements are not yours to turn. If you find one false, say at which input.
  Laid BY PROGRAM, IN A SANDBOX (cutbox-rows.mjs): the forced cells as the released guide's own fill.sh prints them over the translation 705f408fe676f67f… (all of the seat's roots in one cut). By AI agents, Wed Nov 11 2026. No macro, syntax, notation, axiom, sorry.
-/
import Derived.Test.YthlboecjlelemaaChecked
import GoSem.Claim
import GoSem.ClaimJoined
import GoSem.ClaimMapViews
import Derived.JoinedTies
import Derived.KernelRfl
namespace Go.Proofs.Ythlboecjlelemaa
/- THE CELL 'sum', in the pinned program and in every row, IS THE sha256 OF THE DUMP (.gsa) THAT YthlboecjlelemaaProg.lean LOADS. Nothing in Lean hashes anything: it is a label: what it is worth is what the hold of that sum in a sandbox is worth. -/
noncomputable def Try.pinned : Pinned := { name := "ythlboecjlelemaa", sum := "705f408fe676f67f89bb518a54038b7010e7dc5e802c141920ffb1e23c4c6461", checked := Try.checked }
namespace Rows
def none {H : Type} : Left H := { results := [], args := [] }

/-- 'quartermasterlaw6.VarsMany': WHATEVER THE INPUT: true; the input reads as it did. -/
def varsManySpec : ChangeSpec := { name := "varsMany", fn := fun _ => fun
  | [d1, d2] => { results := [.lit (.bool true)], args := [d1, d2] }
  | _ => none }
def varsManyRow : OpenClaim := { program := "ythlboecjlelemaa", sum := "705f408fe676f67f89bb518a54038b7010e7dc5e802c141920ffb1e23c4c6461", func := "quartermaster/quartermasterlaw6.VarsMany", spec := "varsMany", inPlace := ["internal/bytealg.IndexByteString", "internal/bytealg.IndexString"], recurses := true, named := ["internal/bytealg.MaxLen"], apart := false }
def VarsManySaid : Prop := varsManyRow.holds Try.pinned (OpenSpec.ofChange varsManySpec)

/-- ITS FALSE NEIGHBOUR: 'it returns false'. Refute it at one input. -/
def varsManyWrong : ChangeSpec := { name := "varsMany", fn := fun _ => fun
  | [d1, d2] => { results := [.lit (.bool false)], args := [d1, d2] }
  | _ => none }
def VarsManyWrongFalsely : Prop := varsManyRow.holds Try.pinned (OpenSpec.ofChange varsManyWrong)

/-- 'quartermasterlaw11.StripTakes': WHATEVER THE INPUT: true; the input reads as it did. -/
def stripTakesSpec : ChangeSpec := { name := "stripTakes", fn := fun _ => fun
  | [d1, d2] => { results := [.lit (.bool true)], args := [d1, d2] }
  | _ => none }
def stripTakesRow : OpenClaim := { program := "ythlboecjlelemaa", sum := "705f408fe676f67f89bb518a54038b7010e7dc5e802c141920ffb1e23c4c6461", func := "quartermaster/quartermasterlaw11.StripTakes", spec := "stripTakes", apart := false }
def StripTakesSaid : Prop := stripTakesRow.holds Try.pinned (OpenSpec.ofChange stripTakesSpec)

/-- ITS FALSE NEIGHBOUR: 'it returns false'. Refute it at one input. -/
def stripTakesWrong : ChangeSpec := { name := "stripTakes", fn := fun _ => fun
  | [d1, d2] => { results := [.lit (.bool false)], args := [d1, d2] }
  | _ => none }
def StripTakesWrongFalsely : Prop := stripTakesRow.holds Try.pinned (OpenSpec.ofChange stripTakesWrong)

/-- 'quartermasterlaw11.StripEnds': WHATEVER THE INPUT: true; the input reads as it did. -/
def stripEndsSpec : ChangeSpec := { name := "stripEnds", fn := fun _ => fun
  | [d1, d2] => { results := [.lit (.bool true)], args := [d1, d2] }
  | _ => none }
def stripEndsRow : OpenClaim := { program := "ythlboecjlelemaa", sum := "705f408fe676f67f89bb518a54038b7010e7dc5e802c141920ffb1e23c4c6461", func := "quartermaster/quartermasterlaw11.StripEnds", spec := "stripEnds", apart := false }
def StripEndsSaid : Prop := stripEndsRow.holds Try.pinned (OpenSpec.ofChange stripEndsSpec)

/-- ITS FALSE NEIGHBOUR: 'it returns false'. Refute it at one input. -/
def stripEndsWrong : ChangeSpec := { name := "stripEnds", fn := fun _ => fun
  | [d1, d2] => { results := [.lit (.bool false)], args := [d1, d2] }
  | _ => none }
def StripEndsWrongFalsely : Prop := stripEndsRow.holds Try.pinned (OpenSpec.ofChange stripEndsWrong)

/-- 'quartermasterlaw11.StripPlain': WHATEVER THE INPUT: true; the input reads as it did. -/
def stripPlainSpec : ChangeSpec := { name := "stripPlain", fn := fun _ => fun
  | [d1, d2, d3] => { results := [.lit (.bool true)], args := [d1, d2, d3] }
  | _ => none }
def stripPlainRow : OpenClaim := { program := "ythlboecjlelemaa", sum := "705f408fe676f67f89bb518a54038b7010e7dc5e802c141920ffb1e23c4c6461", func := "quartermaster/quartermasterlaw11.StripPlain", spec := "stripPlain", apart := false }
def StripPlainSaid : Prop := stripPlainRow.holds Try.pinned (OpenSpec.ofChange stripPlainSpec)

/-- ITS FALSE NEIGHBOUR: 'it returns false'. Refute it at one input. -/
def stripPlainWrong : ChangeSpec := { name := "stripPlain", fn := fun _ => fun
  | [d1, d2, d3] => { results := [.lit (.bool false)], args := [d1, d2, d3] }
  | _ => none }
def StripPlainWrongFalsely : Prop := stripPlainRow.holds Try.pinned (OpenSpec.ofChange stripPlainWrong)

/-- 'quartermasterlaw12.FieldWhole': WHATEVER THE INPUT: true; the input reads as it did. -/
def fieldWholeSpec : ChangeSpec := { name := "fieldWhole", fn := fun _ => fun
  | [d] => { results := [.lit (.bool true)], args := [d] }
  | _ => none }
def fieldWholeRow : OpenClaim := { program := "ythlboecjlelemaa", sum := "705f408fe676f67f89bb518a54038b7010e7dc5e802c141920ffb1e23c4c6461", func := "quartermaster/quartermasterlaw12.FieldWhole", spec := "fieldWhole", inPlace := ["internal/bytealg.IndexByteString", "internal/bytealg.IndexString", "internal/abi.NoEscape"], unfollowed := true, recurses := true, named := ["internal/bytealg.MaxLen"], loops := true, apart := false }
def FieldWholeSaid : Prop := fieldWholeRow.holds Try.pinned (OpenSpec.ofChange fieldWholeSpec)

/-- ITS FALSE NEIGHBOUR: 'it returns false'. Refute it at one input. -/
def fieldWholeWrong : ChangeSpec := { name := "fieldWhole", fn := fun _ => fun
  | [d] => { results := [.lit (.bool false)], args := [d] }
  | _ => none }
def FieldWholeWrongFalsely : Prop := fieldWholeRow.holds Try.pinned (OpenSpec.ofChange fieldWholeWrong)

/-- 'quartermasterlaw12.FieldWords': WHATEVER THE INPUT: true; the input reads as it did. -/
def fieldWordsSpec : ChangeSpec := { name := "fieldWords", fn := fun _ => fun
  | [d1, d2, d3] => { results := [.lit (.bool true)], args := [d1, d2, d3] }
  | _ => none }
def fieldWordsRow : OpenClaim := { program := "ythlboecjlelemaa", sum := "705f408fe676f67f89bb518a54038b7010e7dc5e802c141920ffb1e23c4c6461", func := "quartermaster/quartermasterlaw12.FieldWords", spec := "fieldWords", inPlace := ["internal/bytealg.IndexByteString", "internal/bytealg.IndexString", "internal/abi.NoEscape"], unfollowed := true, recurses := true, named := ["internal/bytealg.MaxLen"], apart := false }
def FieldWordsSaid : Prop := fieldWordsRow.holds Try.pinned (OpenSpec.ofChange fieldWordsSpec)

/-- ITS FALSE NEIGHBOUR: 'it returns false'. Refute it at one input. -/
def fieldWordsWrong : ChangeSpec := { name := "fieldWords", fn := fun _ => fun
  | [d1, d2, d3] => { results := [.lit (.bool false)], args := [d1, d2, d3] }
  | _ => none }
def FieldWordsWrongFalsely : Prop := fieldWordsRow.holds Try.pinned (OpenSpec.ofChange fieldWordsWrong)

/-- 'quartermasterlaw12.FieldSplits': WHATEVER THE INPUT: true; the input reads as it did. -/
def fieldSplitsSpec : ChangeSpec := { name := "fieldSplits", fn := fun _ => fun
  | [d] => { results := [.lit (.bool true)], args := [d] }
  | _ => none }
def fieldSplitsRow : OpenClaim := { program := "ythlboecjlelemaa", sum := "705f408fe676f67f89bb518a54038b7010e7dc5e802c141920ffb1e23c4c6461", func := "quartermaster/quartermasterlaw12.FieldSplits", spec := "fieldSplits", inPlace := ["internal/bytealg.IndexByteString", "internal/bytealg.IndexString", "internal/abi.NoEscape"], unfollowed := true, recurses := true, named := ["internal/bytealg.MaxLen"], loops := true, apart := false }
def FieldSplitsSaid : Prop := fieldSplitsRow.holds Try.pinned (OpenSpec.ofChange fieldSplitsSpec)

/-- ITS FALSE NEIGHBOUR: 'it returns false'. Refute it at one input. -/
def fieldSplitsWrong : ChangeSpec := { name := "fieldSplits", fn := fun _ => fun
  | [d] => { results := [.lit (.bool false)], args := [d] }
  | _ => none }
def FieldSplitsWrongFalsely : Prop := fieldSplitsRow.holds Try.pinned (OpenSpec.ofChange fieldSplitsWrong)

/-- 'quartermasterlaw1.GlobNames': WHATEVER THE INPUT: true; the input reads as it did. -/
def globNamesSpec : ChangeSpec := { name := "globNames", fn := fun _ => fun
  | [d1, d2] => { results := [.lit (.bool true)], args := [d1, d2] }
  | _ => none }
def globNamesRow : OpenClaim := { program := "ythlboecjlelemaa", sum := "705f408fe676f67f89bb518a54038b7010e7dc5e802c141920ffb1e23c4c6461", func := "quartermaster/quartermasterlaw1.GlobNames", spec := "globNames", recurses := true, apart := false }
def GlobNamesSaid : Prop := globNamesRow.holds Try.pinned (OpenSpec.ofChange globNamesSpec)

/-- ITS FALSE NEIGHBOUR: 'it returns false'. Refute it at one input. -/
def globNamesWrong : ChangeSpec := { name := "globNames", fn := fun _ => fun
  | [d1, d2] => { results := [.lit (.bool false)], args := [d1, d2] }
  | _ => none }
def GlobNamesWrongFalsely : Prop := globNamesRow.holds Try.pinned (OpenSpec.ofChange globNamesWrong)

/- THE SECOND FORM. 'bulk': how many values and letters a reading holds, each counted each time it is reached (what is shared counts as often as it is met; a slice's spare places count too). A statement '..UptoSaid' is the law's where the arguments, and the package variables that the reading takes, are together of bulk at most 1048576: NARROWER than '..Said'. Prove '..Said' where nothing that the law and all that it calls make is longer than what came in: it says more and counts as full. Else prove '..UptoSaid'. A law counts once. -/
mutual
def uptoBulk {H : Type} : DataW H → Nat
  | .lit (.string bytes) => bytes.length + 1
  | .lit _ => 1
  | .nil => 1
  | .ptr d => uptoBulk d + 1
  | .slice elems spare => uptoBulkAll elems + uptoBulkAll spare + 1
  | .agg parts => uptoBulkAll parts + 1
  | .iface _ d => uptoBulk d + 1
  | .map entries => uptoBulkEntries entries + 1
  | .held _ => 1
def uptoBulkAll {H : Type} : List (DataW H) → Nat
  | [] => 0
  | d :: r => uptoBulk d + uptoBulkAll r
def uptoBulkEntries {H : Type} : List (Lit × DataW H) → Nat
  | [] => 0
  | x :: r => uptoBulkEntry x + uptoBulkEntries r
def uptoBulkEntry {H : Type} : Lit × DataW H → Nat
  | (.string bytes, d) => bytes.length + uptoBulk d + 1
  | (_, d) => uptoBulk d + 1
 end
def uptoSmall : (H : Type) → List (DataW H) → Bool := fun _ ds => decide (uptoBulkAll ds ≤ 1048576)
def OpenSpec.upto (s : _root_.Go.ChangeSpec) : _root_.Go.OpenSpec := { _root_.Go.OpenSpec.ofChange s with cond := some uptoSmall }

/-- 'quartermasterlaw6.VarsMany', WHERE WHAT IT READS IS OF BULK AT MOST 1048576: true; the input reads as it did. -/
def varsManyUptoRow : OpenClaim := { program := "ythlboecjlelemaa", sum := "705f408fe676f67f89bb518a54038b7010e7dc5e802c141920ffb1e23c4c6461", func := "quartermaster/quartermasterlaw6.VarsMany", spec := "varsMany", inPlace := ["internal/bytealg.IndexByteString", "internal/bytealg.IndexString"], recurses := true, named := ["internal/bytealg.MaxLen"], apart := false, narrowed := true }
def VarsManyUptoSaid : Prop := varsManyUptoRow.holds Try.pinned (OpenSpec.upto varsManySpec)

/-- 'quartermasterlaw11.StripTakes', WHERE WHAT IT READS IS OF BULK AT MOST 1048576: true; the input reads as it did. -/
def stripTakesUptoRow : OpenClaim := { program := "ythlboecjlelemaa", sum := "705f408fe676f67f89bb518a54038b7010e7dc5e802c141920ffb1e23c4c6461", func := "quartermaster/quartermasterlaw11.StripTakes", spec := "stripTakes", apart := false, narrowed := true }
def StripTakesUptoSaid : Prop := stripTakesUptoRow.holds Try.pinned (OpenSpec.upto stripTakesSpec)

/-- 'quartermasterlaw11.StripEnds', WHERE WHAT IT READS IS OF BULK AT MOST 1048576: true; the input reads as it did. -/
def stripEndsUptoRow : OpenClaim := { program := "ythlboecjlelemaa", sum := "705f408fe676f67f89bb518a54038b7010e7dc5e802c141920ffb1e23c4c6461", func := "quartermaster/quartermasterlaw11.StripEnds", spec := "stripEnds", apart := false, narrowed := true }
def StripEndsUptoSaid : Prop := stripEndsUptoRow.holds Try.pinned (OpenSpec.upto stripEndsSpec)

/-- 'quartermasterlaw11.StripPlain', WHERE WHAT IT READS IS OF BULK AT MOST 1048576: true; the input reads as it did. -/
def stripPlainUptoRow : OpenClaim := { program := "ythlboecjlelemaa", sum := "705f408fe676f67f89bb518a54038b7010e7dc5e802c141920ffb1e23c4c6461", func := "quartermaster/quartermasterlaw11.StripPlain", spec := "stripPlain", apart := false, narrowed := true }
def StripPlainUptoSaid : Prop := stripPlainUptoRow.holds Try.pinned (OpenSpec.upto stripPlainSpec)

/-- 'quartermasterlaw12.FieldWhole', WHERE WHAT IT READS IS OF BULK AT MOST 1048576: true; the input reads as it did. -/
def fieldWholeUptoRow : OpenClaim := { program := "ythlboecjlelemaa", sum := "705f408fe676f67f89bb518a54038b7010e7dc5e802c141920ffb1e23c4c6461", func := "quartermaster/quartermasterlaw12.FieldWhole", spec := "fieldWhole", inPlace := ["internal/bytealg.IndexByteString", "internal/bytealg.IndexString", "internal/abi.NoEscape"], unfollowed := true, recurses := true, named := ["internal/bytealg.MaxLen"], loops := true, apart := false, narrowed := true }
def FieldWholeUptoSaid : Prop := fieldWholeUptoRow.holds Try.pinned (OpenSpec.upto fieldWholeSpec)

/-- 'quartermasterlaw12.FieldWords', WHERE WHAT IT READS IS OF BULK AT MOST 1048576: true; the input reads as it did. -/
def fieldWordsUptoRow : OpenClaim := { program := "ythlboecjlelemaa", sum := "705f408fe676f67f89bb518a54038b7010e7dc5e802c141920ffb1e23c4c6461", func := "quartermaster/quartermasterlaw12.FieldWords", spec := "fieldWords", inPlace := ["internal/bytealg.IndexByteString", "internal/bytealg.IndexString", "internal/abi.NoEscape"], unfollowed := true, recurses := true, named := ["internal/bytealg.MaxLen"], apart := false, narrowed := true }
def FieldWordsUptoSaid : Prop := fieldWordsUptoRow.holds Try.pinned (OpenSpec.upto fieldWordsSpec)

/-- 'quartermasterlaw12.FieldSplits', WHERE WHAT IT READS IS OF BULK AT MOST 1048576: true; the input reads as it did. -/
def fieldSplitsUptoRow : OpenClaim := { program := "ythlboecjlelemaa", sum := "705f408fe676f67f89bb518a54038b7010e7dc5e802c141920ffb1e23c4c6461", func := "quartermaster/quartermasterlaw12.FieldSplits", spec := "fieldSplits", inPlace := ["internal/bytealg.IndexByteString", "internal/bytealg.IndexString", "internal/abi.NoEscape"], unfollowed := true, recurses := true, named := ["internal/bytealg.MaxLen"], loops := true, apart := false, narrowed := true }
def FieldSplitsUptoSaid : Prop := fieldSplitsUptoRow.holds Try.pinned (OpenSpec.upto fieldSplitsSpec)

/-- 'quartermasterlaw1.GlobNames', WHERE WHAT IT READS IS OF BULK AT MOST 1048576: true; the input reads as it did. -/
def globNamesUptoRow : OpenClaim := { program := "ythlboecjlelemaa", sum := "705f408fe676f67f89bb518a54038b7010e7dc5e802c141920ffb1e23c4c6461", func := "quartermaster/quartermasterlaw1.GlobNames", spec := "globNames", recurses := true, apart := false, narrowed := true }
def GlobNamesUptoSaid : Prop := globNamesUptoRow.holds Try.pinned (OpenSpec.upto globNamesSpec)

end Rows
end Go.Proofs.Ythlboecjlelemaa
