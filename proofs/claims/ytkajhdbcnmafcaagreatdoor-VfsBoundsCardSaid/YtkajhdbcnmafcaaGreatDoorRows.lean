/-
  NARROWER THAN 'FOR EVERY INPUT', by the rows' own cells (each row's printed sentence says how): VfsTurns: laid · VfsBounds: laid · VfsMoves: laid · AgeTells: laid · VfsCopies: laid · GraphBehind: laid · GraphReach: laid · GraphOrders: laid.
  DERIVED. THE GIVEN ROWS OF THIS SEAT. 8 by the template 'for every input the law returns true; each argument reads behind the call as it read before'; 0 by the template 'total and deterministic' (their statements: YtkajhdbcnmafcaaGreatDoorTotals.lean).
  GIVEN WITH THE SEED: the statements are not yours to turn. If you find one false, say at which input.
  Laid BY PROGRAM, IN A SANDBOX (cutbox-rows.mjs): the forced cells as the released guide's own fill.sh prints them over the translation 59891aa3cf95ed32… (all of the seat's roots in one cut). By AI agents, Wed Nov 11 2026. No macro, syntax, notation, axiom, sorry.
-/
import Derived.Test.YtkajhdbcnmafcaaGreatDoorChecked
import GoSem.PinnedTables
import GoSem.Claim
import GoSem.ClaimJoined
import GoSem.ClaimMapViews
import Derived.JoinedTies
import Derived.KernelRfl
namespace Go.Proofs.YtkajhdbcnmafcaaGreatDoor
/- THE CELL 'sum', in the pinned program and in every row, IS THE sha256 OF THE DUMP (.gsa) THAT YtkajhdbcnmafcaaGreatDoorProg.lean LOADS. Nothing in Lean hashes anything: it is a label: what it is worth is what the hold of that sum in a sandbox is worth. -/
noncomputable def Tryz.pinned : Pinned := { name := "ytkajhdbcnmafcaagreatdoor", sum := "59891aa3cf95ed322cdddb0a73dfafc6f7c673e62d65dab16094a29ab4e9df6b", checked := Tryz.checked }
namespace Rows
def none {H : Type} : Left H := { results := [], args := [] }

/- WHAT THE LISTED PACKAGE-LEVEL VARIABLES READ AS WHEN THE CALL BEGINS. Each datum BY PROGRAM (the guide's laid-datum.mjs) off the statement by which the dump's own 'gosem.cut.vars' lays the variable. In a bare row this is a premise. The card (YtkajhdbcnmafcaaGreatDoorCards.lean) ties it to the program's text. -/
def laid_unicode_utf8_acceptRanges {H : Type} : DataW H := .agg [.agg [.lit (.int .u8 128), .lit (.int .u8 191)], .agg [.lit (.int .u8 160), .lit (.int .u8 191)], .agg [.lit (.int .u8 128), .lit (.int .u8 159)], .agg [.lit (.int .u8 144), .lit (.int .u8 191)], .agg [.lit (.int .u8 128), .lit (.int .u8 143)], .agg [.lit (.int .u8 0), .lit (.int .u8 0)], .agg [.lit (.int .u8 0), .lit (.int .u8 0)], .agg [.lit (.int .u8 0), .lit (.int .u8 0)], .agg [.lit (.int .u8 0), .lit (.int .u8 0)], .agg [.lit (.int .u8 0), .lit (.int .u8 0)], .agg [.lit (.int .u8 0), .lit (.int .u8 0)], .agg [.lit (.int .u8 0), .lit (.int .u8 0)], .agg [.lit (.int .u8 0), .lit (.int .u8 0)], .agg [.lit (.int .u8 0), .lit (.int .u8 0)], .agg [.lit (.int .u8 0), .lit (.int .u8 0)], .agg [.lit (.int .u8 0), .lit (.int .u8 0)]]
/-- One of Go's own tables, pinned by name: the form's constant. -/
def laid_unicode_utf8_first : DataW Unit := Go.Pinned.utf8First

/-- 'quartermasterlaw4.VfsTurns': WHATEVER THE INPUT: true; the input reads as it did. -/
def vfsTurnsSpec : ChangeSpec := { name := "vfsTurns", fn := fun _ => fun
  | [d1, d2] => { results := [.lit (.bool true)], args := [d1, d2] }
  | _ => none }
def vfsTurnsRow : OpenClaim := { program := "ytkajhdbcnmafcaagreatdoor", sum := "59891aa3cf95ed322cdddb0a73dfafc6f7c673e62d65dab16094a29ab4e9df6b", func := "quartermaster/quartermasterlaw4.VfsTurns", spec := "vfsTurns", inPlace := ["internal/bytealg.IndexByteString", "internal/bytealg.IndexString", "internal/bytealg.CountString", "internal/abi.NoEscape", "internal/bytealg.MakeNoZero"], unfollowed := true, recurses := true, named := ["internal/bytealg.MaxLen", "unicode/utf8.first", "unicode/utf8.acceptRanges"], apart := false, laid := [("unicode/utf8.acceptRanges", laid_unicode_utf8_acceptRanges), ("unicode/utf8.first", laid_unicode_utf8_first)] }
def VfsTurnsSaid : Prop := vfsTurnsRow.holds Tryz.pinned (OpenSpec.ofChange vfsTurnsSpec)

/-- ITS FALSE NEIGHBOUR: 'it returns false'. Refute it at one input. -/
def vfsTurnsWrong : ChangeSpec := { name := "vfsTurns", fn := fun _ => fun
  | [d1, d2] => { results := [.lit (.bool false)], args := [d1, d2] }
  | _ => none }
def VfsTurnsWrongFalsely : Prop := vfsTurnsRow.holds Tryz.pinned (OpenSpec.ofChange vfsTurnsWrong)

/-- 'quartermasterlaw4.VfsBounds': WHATEVER THE INPUT: true; the input reads as it did. -/
def vfsBoundsSpec : ChangeSpec := { name := "vfsBounds", fn := fun _ => fun
  | [d1, d2, d3] => { results := [.lit (.bool true)], args := [d1, d2, d3] }
  | _ => none }
def vfsBoundsRow : OpenClaim := { program := "ytkajhdbcnmafcaagreatdoor", sum := "59891aa3cf95ed322cdddb0a73dfafc6f7c673e62d65dab16094a29ab4e9df6b", func := "quartermaster/quartermasterlaw4.VfsBounds", spec := "vfsBounds", inPlace := ["internal/bytealg.IndexByteString", "internal/bytealg.IndexString", "internal/bytealg.CountString", "internal/abi.NoEscape", "internal/bytealg.MakeNoZero"], unfollowed := true, recurses := true, named := ["internal/bytealg.MaxLen", "unicode/utf8.first", "unicode/utf8.acceptRanges"], apart := false, laid := [("unicode/utf8.acceptRanges", laid_unicode_utf8_acceptRanges), ("unicode/utf8.first", laid_unicode_utf8_first)] }
def VfsBoundsSaid : Prop := vfsBoundsRow.holds Tryz.pinned (OpenSpec.ofChange vfsBoundsSpec)

/-- ITS FALSE NEIGHBOUR: 'it returns false'. Refute it at one input. -/
def vfsBoundsWrong : ChangeSpec := { name := "vfsBounds", fn := fun _ => fun
  | [d1, d2, d3] => { results := [.lit (.bool false)], args := [d1, d2, d3] }
  | _ => none }
def VfsBoundsWrongFalsely : Prop := vfsBoundsRow.holds Tryz.pinned (OpenSpec.ofChange vfsBoundsWrong)

/-- 'quartermasterlaw4.VfsMoves': WHATEVER THE INPUT: true; the input reads as it did. -/
def vfsMovesSpec : ChangeSpec := { name := "vfsMoves", fn := fun _ => fun
  | [d1, d2, d3] => { results := [.lit (.bool true)], args := [d1, d2, d3] }
  | _ => none }
def vfsMovesRow : OpenClaim := { program := "ytkajhdbcnmafcaagreatdoor", sum := "59891aa3cf95ed322cdddb0a73dfafc6f7c673e62d65dab16094a29ab4e9df6b", func := "quartermaster/quartermasterlaw4.VfsMoves", spec := "vfsMoves", inPlace := ["internal/bytealg.IndexByteString", "internal/bytealg.IndexString", "internal/bytealg.CountString", "internal/abi.NoEscape", "internal/bytealg.MakeNoZero"], unfollowed := true, recurses := true, named := ["internal/bytealg.MaxLen", "unicode/utf8.first", "unicode/utf8.acceptRanges"], apart := false, laid := [("unicode/utf8.acceptRanges", laid_unicode_utf8_acceptRanges), ("unicode/utf8.first", laid_unicode_utf8_first)] }
def VfsMovesSaid : Prop := vfsMovesRow.holds Tryz.pinned (OpenSpec.ofChange vfsMovesSpec)

/-- ITS FALSE NEIGHBOUR: 'it returns false'. Refute it at one input. -/
def vfsMovesWrong : ChangeSpec := { name := "vfsMoves", fn := fun _ => fun
  | [d1, d2, d3] => { results := [.lit (.bool false)], args := [d1, d2, d3] }
  | _ => none }
def VfsMovesWrongFalsely : Prop := vfsMovesRow.holds Tryz.pinned (OpenSpec.ofChange vfsMovesWrong)

/-- 'quartermasterlaw23.AgeTells': WHATEVER THE INPUT: true; the input reads as it did. -/
def ageTellsSpec : ChangeSpec := { name := "ageTells", fn := fun _ => fun
  | [d1, d2, d3, d4, d5, d6] => { results := [.lit (.bool true)], args := [d1, d2, d3, d4, d5, d6] }
  | _ => none }
def ageTellsRow : OpenClaim := { program := "ytkajhdbcnmafcaagreatdoor", sum := "59891aa3cf95ed322cdddb0a73dfafc6f7c673e62d65dab16094a29ab4e9df6b", func := "quartermaster/quartermasterlaw23.AgeTells", spec := "ageTells", inPlace := ["internal/bytealg.IndexByteString", "internal/bytealg.IndexString", "internal/bytealg.CountString", "internal/abi.NoEscape", "internal/bytealg.MakeNoZero"], unfollowed := true, recurses := true, named := ["internal/bytealg.MaxLen", "unicode/utf8.first", "unicode/utf8.acceptRanges"], apart := false, laid := [("unicode/utf8.acceptRanges", laid_unicode_utf8_acceptRanges), ("unicode/utf8.first", laid_unicode_utf8_first)] }
def AgeTellsSaid : Prop := ageTellsRow.holds Tryz.pinned (OpenSpec.ofChange ageTellsSpec)

/-- ITS FALSE NEIGHBOUR: 'it returns false'. Refute it at one input. -/
def ageTellsWrong : ChangeSpec := { name := "ageTells", fn := fun _ => fun
  | [d1, d2, d3, d4, d5, d6] => { results := [.lit (.bool false)], args := [d1, d2, d3, d4, d5, d6] }
  | _ => none }
def AgeTellsWrongFalsely : Prop := ageTellsRow.holds Tryz.pinned (OpenSpec.ofChange ageTellsWrong)

/-- 'quartermasterlaw4.VfsCopies': WHATEVER THE INPUT: true; the input reads as it did. -/
def vfsCopiesSpec : ChangeSpec := { name := "vfsCopies", fn := fun _ => fun
  | [d1, d2] => { results := [.lit (.bool true)], args := [d1, d2] }
  | _ => none }
def vfsCopiesRow : OpenClaim := { program := "ytkajhdbcnmafcaagreatdoor", sum := "59891aa3cf95ed322cdddb0a73dfafc6f7c673e62d65dab16094a29ab4e9df6b", func := "quartermaster/quartermasterlaw4.VfsCopies", spec := "vfsCopies", inPlace := ["internal/bytealg.IndexByteString", "internal/bytealg.IndexString", "internal/bytealg.CountString", "internal/abi.NoEscape", "internal/bytealg.MakeNoZero", "maps.clone"], unfollowed := true, recurses := true, named := ["internal/bytealg.MaxLen", "unicode/utf8.first", "unicode/utf8.acceptRanges"], apart := false, laid := [("unicode/utf8.acceptRanges", laid_unicode_utf8_acceptRanges), ("unicode/utf8.first", laid_unicode_utf8_first)] }
def VfsCopiesSaid : Prop := vfsCopiesRow.holds Tryz.pinned (OpenSpec.ofChange vfsCopiesSpec)

/-- ITS FALSE NEIGHBOUR: 'it returns false'. Refute it at one input. -/
def vfsCopiesWrong : ChangeSpec := { name := "vfsCopies", fn := fun _ => fun
  | [d1, d2] => { results := [.lit (.bool false)], args := [d1, d2] }
  | _ => none }
def VfsCopiesWrongFalsely : Prop := vfsCopiesRow.holds Tryz.pinned (OpenSpec.ofChange vfsCopiesWrong)

/-- 'quartermasterlaw22.GraphBehind': WHATEVER THE INPUT: true; the input reads as it did. -/
def graphBehindSpec : ChangeSpec := { name := "graphBehind", fn := fun _ => fun
  | [d1, d2, d3] => { results := [.lit (.bool true)], args := [d1, d2, d3] }
  | _ => none }
def graphBehindRow : OpenClaim := { program := "ytkajhdbcnmafcaagreatdoor", sum := "59891aa3cf95ed322cdddb0a73dfafc6f7c673e62d65dab16094a29ab4e9df6b", func := "quartermaster/quartermasterlaw22.GraphBehind", spec := "graphBehind", inPlace := ["internal/bytealg.IndexByteString", "internal/bytealg.IndexString", "internal/bytealg.CountString", "internal/abi.NoEscape", "internal/bytealg.MakeNoZero"], unfollowed := true, recurses := true, named := ["internal/bytealg.MaxLen", "unicode/utf8.first", "unicode/utf8.acceptRanges"], apart := false, laid := [("unicode/utf8.acceptRanges", laid_unicode_utf8_acceptRanges), ("unicode/utf8.first", laid_unicode_utf8_first)] }
def GraphBehindSaid : Prop := graphBehindRow.holds Tryz.pinned (OpenSpec.ofChange graphBehindSpec)

/-- ITS FALSE NEIGHBOUR: 'it returns false'. Refute it at one input. -/
def graphBehindWrong : ChangeSpec := { name := "graphBehind", fn := fun _ => fun
  | [d1, d2, d3] => { results := [.lit (.bool false)], args := [d1, d2, d3] }
  | _ => none }
def GraphBehindWrongFalsely : Prop := graphBehindRow.holds Tryz.pinned (OpenSpec.ofChange graphBehindWrong)

/-- 'quartermasterlaw22.GraphReach': WHATEVER THE INPUT: true; the input reads as it did. -/
def graphReachSpec : ChangeSpec := { name := "graphReach", fn := fun _ => fun
  | [d1, d2, d3, d4] => { results := [.lit (.bool true)], args := [d1, d2, d3, d4] }
  | _ => none }
def graphReachRow : OpenClaim := { program := "ytkajhdbcnmafcaagreatdoor", sum := "59891aa3cf95ed322cdddb0a73dfafc6f7c673e62d65dab16094a29ab4e9df6b", func := "quartermaster/quartermasterlaw22.GraphReach", spec := "graphReach", inPlace := ["internal/bytealg.IndexByteString", "internal/bytealg.IndexString", "internal/bytealg.CountString", "internal/abi.NoEscape", "internal/bytealg.MakeNoZero"], unfollowed := true, recurses := true, named := ["internal/bytealg.MaxLen", "unicode/utf8.first", "unicode/utf8.acceptRanges"], apart := false, laid := [("unicode/utf8.acceptRanges", laid_unicode_utf8_acceptRanges), ("unicode/utf8.first", laid_unicode_utf8_first)] }
def GraphReachSaid : Prop := graphReachRow.holds Tryz.pinned (OpenSpec.ofChange graphReachSpec)

/-- ITS FALSE NEIGHBOUR: 'it returns false'. Refute it at one input. -/
def graphReachWrong : ChangeSpec := { name := "graphReach", fn := fun _ => fun
  | [d1, d2, d3, d4] => { results := [.lit (.bool false)], args := [d1, d2, d3, d4] }
  | _ => none }
def GraphReachWrongFalsely : Prop := graphReachRow.holds Tryz.pinned (OpenSpec.ofChange graphReachWrong)

/-- 'quartermasterlaw22.GraphOrders': WHATEVER THE INPUT: true; the input reads as it did. -/
def graphOrdersSpec : ChangeSpec := { name := "graphOrders", fn := fun _ => fun
  | [d1, d2, d3, d4] => { results := [.lit (.bool true)], args := [d1, d2, d3, d4] }
  | _ => none }
def graphOrdersRow : OpenClaim := { program := "ytkajhdbcnmafcaagreatdoor", sum := "59891aa3cf95ed322cdddb0a73dfafc6f7c673e62d65dab16094a29ab4e9df6b", func := "quartermaster/quartermasterlaw22.GraphOrders", spec := "graphOrders", inPlace := ["internal/bytealg.IndexByteString", "internal/bytealg.IndexString", "internal/bytealg.CountString", "internal/abi.NoEscape", "internal/bytealg.MakeNoZero"], unfollowed := true, recurses := true, named := ["internal/bytealg.MaxLen", "unicode/utf8.first", "unicode/utf8.acceptRanges"], apart := false, laid := [("unicode/utf8.acceptRanges", laid_unicode_utf8_acceptRanges), ("unicode/utf8.first", laid_unicode_utf8_first)] }
def GraphOrdersSaid : Prop := graphOrdersRow.holds Tryz.pinned (OpenSpec.ofChange graphOrdersSpec)

/-- ITS FALSE NEIGHBOUR: 'it returns false'. Refute it at one input. -/
def graphOrdersWrong : ChangeSpec := { name := "graphOrders", fn := fun _ => fun
  | [d1, d2, d3, d4] => { results := [.lit (.bool false)], args := [d1, d2, d3, d4] }
  | _ => none }
def GraphOrdersWrongFalsely : Prop := graphOrdersRow.holds Tryz.pinned (OpenSpec.ofChange graphOrdersWrong)

/- THE SECOND FORM. 'bulk': how many values and letters a reading holds, each counted each time it is reached (what is shared counts as often as it is met; a slice's spare places count too). A statement '..UptoSaid' is the law's where the arguments, and the package variables that the reading takes, are together of bulk at most 1048576: NARROWER than '..Said'. Prove '..Said' where nothing that the law and all that it calls make is longer than what came in: it says more and counts as full. Else prove '..UptoSaid'. A law counts once. -/
mutual
def uptoBulk {H : Type} : DataW H → Nat
  | .lit (.string bytes) => bytes.length + 1
  | .lit _ => 1
  | .nil => 1
  | .ptr d => uptoBulk d + 1
  | .slice elems spare => uptoBulkAll elems + uptoBulkAll spare + 1
  | .agg parts => uptoBulkAll parts + 1
  | .iface _ d => uptoBulk d + 1
  | .map entries => uptoBulkEntries entries + 1
  | .held _ => 1
def uptoBulkAll {H : Type} : List (DataW H) → Nat
  | [] => 0
  | d :: r => uptoBulk d + uptoBulkAll r
def uptoBulkEntries {H : Type} : List (Lit × DataW H) → Nat
  | [] => 0
  | x :: r => uptoBulkEntry x + uptoBulkEntries r
def uptoBulkEntry {H : Type} : Lit × DataW H → Nat
  | (.string bytes, d) => bytes.length + uptoBulk d + 1
  | (_, d) => uptoBulk d + 1
 end
def uptoSmall : (H : Type) → List (DataW H) → Bool := fun _ ds => decide (uptoBulkAll ds ≤ 1048576)
def OpenSpec.upto (s : _root_.Go.ChangeSpec) : _root_.Go.OpenSpec := { _root_.Go.OpenSpec.ofChange s with cond := some uptoSmall }

/-- 'quartermasterlaw4.VfsTurns', WHERE WHAT IT READS IS OF BULK AT MOST 1048576: true; the input reads as it did. -/
def vfsTurnsUptoRow : OpenClaim := { program := "ytkajhdbcnmafcaagreatdoor", sum := "59891aa3cf95ed322cdddb0a73dfafc6f7c673e62d65dab16094a29ab4e9df6b", func := "quartermaster/quartermasterlaw4.VfsTurns", spec := "vfsTurns", inPlace := ["internal/bytealg.IndexByteString", "internal/bytealg.IndexString", "internal/bytealg.CountString", "internal/abi.NoEscape", "internal/bytealg.MakeNoZero"], unfollowed := true, recurses := true, named := ["internal/bytealg.MaxLen", "unicode/utf8.first", "unicode/utf8.acceptRanges"], apart := false, laid := [("unicode/utf8.acceptRanges", laid_unicode_utf8_acceptRanges), ("unicode/utf8.first", laid_unicode_utf8_first)], narrowed := true }
def VfsTurnsUptoSaid : Prop := vfsTurnsUptoRow.holds Tryz.pinned (OpenSpec.upto vfsTurnsSpec)

/-- 'quartermasterlaw4.VfsBounds', WHERE WHAT IT READS IS OF BULK AT MOST 1048576: true; the input reads as it did. -/
def vfsBoundsUptoRow : OpenClaim := { program := "ytkajhdbcnmafcaagreatdoor", sum := "59891aa3cf95ed322cdddb0a73dfafc6f7c673e62d65dab16094a29ab4e9df6b", func := "quartermaster/quartermasterlaw4.VfsBounds", spec := "vfsBounds", inPlace := ["internal/bytealg.IndexByteString", "internal/bytealg.IndexString", "internal/bytealg.CountString", "internal/abi.NoEscape", "internal/bytealg.MakeNoZero"], unfollowed := true, recurses := true, named := ["internal/bytealg.MaxLen", "unicode/utf8.first", "unicode/utf8.acceptRanges"], apart := false, laid := [("unicode/utf8.acceptRanges", laid_unicode_utf8_acceptRanges), ("unicode/utf8.first", laid_unicode_utf8_first)], narrowed := true }
def VfsBoundsUptoSaid : Prop := vfsBoundsUptoRow.holds Tryz.pinned (OpenSpec.upto vfsBoundsSpec)

/-- 'quartermasterlaw4.VfsMoves', WHERE WHAT IT READS IS OF BULK AT MOST 1048576: true; the input reads as it did. -/
def vfsMovesUptoRow : OpenClaim := { program := "ytkajhdbcnmafcaagreatdoor", sum := "59891aa3cf95ed322cdddb0a73dfafc6f7c673e62d65dab16094a29ab4e9df6b", func := "quartermaster/quartermasterlaw4.VfsMoves", spec := "vfsMoves", inPlace := ["internal/bytealg.IndexByteString", "internal/bytealg.IndexString", "internal/bytealg.CountString", "internal/abi.NoEscape", "internal/bytealg.MakeNoZero"], unfollowed := true, recurses := true, named := ["internal/bytealg.MaxLen", "unicode/utf8.first", "unicode/utf8.acceptRanges"], apart := false, laid := [("unicode/utf8.acceptRanges", laid_unicode_utf8_acceptRanges), ("unicode/utf8.first", laid_unicode_utf8_first)], narrowed := true }
def VfsMovesUptoSaid : Prop := vfsMovesUptoRow.holds Tryz.pinned (OpenSpec.upto vfsMovesSpec)

/-- 'quartermasterlaw23.AgeTells', WHERE WHAT IT READS IS OF BULK AT MOST 1048576: true; the input reads as it did. -/
def ageTellsUptoRow : OpenClaim := { program := "ytkajhdbcnmafcaagreatdoor", sum := "59891aa3cf95ed322cdddb0a73dfafc6f7c673e62d65dab16094a29ab4e9df6b", func := "quartermaster/quartermasterlaw23.AgeTells", spec := "ageTells", inPlace := ["internal/bytealg.IndexByteString", "internal/bytealg.IndexString", "internal/bytealg.CountString", "internal/abi.NoEscape", "internal/bytealg.MakeNoZero"], unfollowed := true, recurses := true, named := ["internal/bytealg.MaxLen", "unicode/utf8.first", "unicode/utf8.acceptRanges"], apart := false, laid := [("unicode/utf8.acceptRanges", laid_unicode_utf8_acceptRanges), ("unicode/utf8.first", laid_unicode_utf8_first)], narrowed := true }
def AgeTellsUptoSaid : Prop := ageTellsUptoRow.holds Tryz.pinned (OpenSpec.upto ageTellsSpec)

/-- 'quartermasterlaw4.VfsCopies', WHERE WHAT IT READS IS OF BULK AT MOST 1048576: true; the input reads as it did. -/
def vfsCopiesUptoRow : OpenClaim := { program := "ytkajhdbcnmafcaagreatdoor", sum := "59891aa3cf95ed322cdddb0a73dfafc6f7c673e62d65dab16094a29ab4e9df6b", func := "quartermaster/quartermasterlaw4.VfsCopies", spec := "vfsCopies", inPlace := ["internal/bytealg.IndexByteString", "internal/bytealg.IndexString", "internal/bytealg.CountString", "internal/abi.NoEscape", "internal/bytealg.MakeNoZero", "maps.clone"], unfollowed := true, recurses := true, named := ["internal/bytealg.MaxLen", "unicode/utf8.first", "unicode/utf8.acceptRanges"], apart := false, laid := [("unicode/utf8.acceptRanges", laid_unicode_utf8_acceptRanges), ("unicode/utf8.first", laid_unicode_utf8_first)], narrowed := true }
def VfsCopiesUptoSaid : Prop := vfsCopiesUptoRow.holds Tryz.pinned (OpenSpec.upto vfsCopiesSpec)

/-- 'quartermasterlaw22.GraphBehind', WHERE WHAT IT READS IS OF BULK AT MOST 1048576: true; the input reads as it did. -/
def graphBehindUptoRow : OpenClaim := { program := "ytkajhdbcnmafcaagreatdoor", sum := "59891aa3cf95ed322cdddb0a73dfafc6f7c673e62d65dab16094a29ab4e9df6b", func := "quartermaster/quartermasterlaw22.GraphBehind", spec := "graphBehind", inPlace := ["internal/bytealg.IndexByteString", "internal/bytealg.IndexString", "internal/bytealg.CountString", "internal/abi.NoEscape", "internal/bytealg.MakeNoZero"], unfollowed := true, recurses := true, named := ["internal/bytealg.MaxLen", "unicode/utf8.first", "unicode/utf8.acceptRanges"], apart := false, laid := [("unicode/utf8.acceptRanges", laid_unicode_utf8_acceptRanges), ("unicode/utf8.first", laid_unicode_utf8_first)], narrowed := true }
def GraphBehindUptoSaid : Prop := graphBehindUptoRow.holds Tryz.pinned (OpenSpec.upto graphBehindSpec)

/-- 'quartermasterlaw22.GraphReach', WHERE WHAT IT READS IS OF BULK AT MOST 1048576: true; the input reads as it did. -/
def graphReachUptoRow : OpenClaim := { program := "ytkajhdbcnmafcaagreatdoor", sum := "59891aa3cf95ed322cdddb0a73dfafc6f7c673e62d65dab16094a29ab4e9df6b", func := "quartermaster/quartermasterlaw22.GraphReach", spec := "graphReach", inPlace := ["internal/bytealg.IndexByteString", "internal/bytealg.IndexString", "internal/bytealg.CountString", "internal/abi.NoEscape", "internal/bytealg.MakeNoZero"], unfollowed := true, recurses := true, named := ["internal/bytealg.MaxLen", "unicode/utf8.first", "unicode/utf8.acceptRanges"], apart := false, laid := [("unicode/utf8.acceptRanges", laid_unicode_utf8_acceptRanges), ("unicode/utf8.first", laid_unicode_utf8_first)], narrowed := true }
def GraphReachUptoSaid : Prop := graphReachUptoRow.holds Tryz.pinned (OpenSpec.upto graphReachSpec)

/-- 'quartermasterlaw22.GraphOrders', WHERE WHAT IT READS IS OF BULK AT MOST 1048576: true; the input reads as it did. -/
def graphOrdersUptoRow : OpenClaim := { program := "ytkajhdbcnmafcaagreatdoor", sum := "59891aa3cf95ed322cdddb0a73dfafc6f7c673e62d65dab16094a29ab4e9df6b", func := "quartermaster/quartermasterlaw22.GraphOrders", spec := "graphOrders", inPlace := ["internal/bytealg.IndexByteString", "internal/bytealg.IndexString", "internal/bytealg.CountString", "internal/abi.NoEscape", "internal/bytealg.MakeNoZero"], unfollowed := true, recurses := true, named := ["internal/bytealg.MaxLen", "unicode/utf8.first", "unicode/utf8.acceptRanges"], apart := false, laid := [("unicode/utf8.acceptRanges", laid_unicode_utf8_acceptRanges), ("unicode/utf8.first", laid_unicode_utf8_first)], narrowed := true }
def GraphOrdersUptoSaid : Prop := graphOrdersUptoRow.holds Tryz.pinned (OpenSpec.upto graphOrdersSpec)

end Rows
end Go.Proofs.YtkajhdbcnmafcaaGreatDoor
