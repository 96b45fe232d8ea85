/-
  NARROWER THAN 'FOR EVERY INPUT', by the rows' own cells (each row's printed sentence says how): ArithEvals: laid · ArithNumbers: laid · ArithLevels: laid · ArithSigns: laid · ArithNames: laid · ArithDeep: laid · ArithWhole: laid · ArithSums: laid · ArithDigits: laid.
  DERIVED. THE GIVEN ROWS OF THIS SEAT. 9 by the template 'for every input the law returns true; each argument reads behind the call as it read before'; 0 by the template 'total and deterministic' (their statements: YtpjbklajjikgjaaDoorTotals.lean).
  GIVEN WITH THE SEED: the statements are not yours to turn. If you find one false, say at which input.
  Laid BY PROGRAM, IN A SANDBOX (cutbox-rows.mjs): the forced cells as the released guide's own fill.sh prints them over the translation 11a974003ef1448c… (all of the seat's roots in one cut). By AI agents, Wed Nov 11 2026. No macro, syntax, notation, axiom, sorry.
-/
import Derived.Test.YtpjbklajjikgjaaDoorChecked
import GoSem.PinnedTables
import GoSem.Claim
import GoSem.ClaimJoined
import GoSem.ClaimMapViews
import Derived.JoinedTies
import Derived.KernelRfl
namespace Go.Proofs.YtpjbklajjikgjaaDoor
/- THE CELL 'sum', in the pinned program and in every row, IS THE sha256 OF THE DUMP (.gsa) THAT YtpjbklajjikgjaaDoorProg.lean LOADS. Nothing in Lean hashes anything: it is a label: what it is worth is what the hold of that sum in a sandbox is worth. -/
noncomputable def Tryd.pinned : Pinned := { name := "ytpjbklajjikgjaadoor", sum := "11a974003ef1448c169fd7bd2661d295e064794bd6173db4889909daf462c42d", checked := Tryd.checked }
namespace Rows
def none {H : Type} : Left H := { results := [], args := [] }

/- WHAT THE LISTED PACKAGE-LEVEL VARIABLES READ AS WHEN THE CALL BEGINS. Each datum BY PROGRAM (the guide's laid-datum.mjs) off the statement by which the dump's own 'gosem.cut.vars' lays the variable. In a bare row this is a premise. The card (YtpjbklajjikgjaaDoorCards.lean) ties it to the program's text. -/
def laid_unicode_utf8_acceptRanges {H : Type} : DataW H := .agg [.agg [.lit (.int .u8 128), .lit (.int .u8 191)], .agg [.lit (.int .u8 160), .lit (.int .u8 191)], .agg [.lit (.int .u8 128), .lit (.int .u8 159)], .agg [.lit (.int .u8 144), .lit (.int .u8 191)], .agg [.lit (.int .u8 128), .lit (.int .u8 143)], .agg [.lit (.int .u8 0), .lit (.int .u8 0)], .agg [.lit (.int .u8 0), .lit (.int .u8 0)], .agg [.lit (.int .u8 0), .lit (.int .u8 0)], .agg [.lit (.int .u8 0), .lit (.int .u8 0)], .agg [.lit (.int .u8 0), .lit (.int .u8 0)], .agg [.lit (.int .u8 0), .lit (.int .u8 0)], .agg [.lit (.int .u8 0), .lit (.int .u8 0)], .agg [.lit (.int .u8 0), .lit (.int .u8 0)], .agg [.lit (.int .u8 0), .lit (.int .u8 0)], .agg [.lit (.int .u8 0), .lit (.int .u8 0)], .agg [.lit (.int .u8 0), .lit (.int .u8 0)]]
/-- One of Go's own tables, pinned by name: the form's constant. -/
def laid_unicode_utf8_first : DataW Unit := Go.Pinned.utf8First

/-- 'quartermasterlaw7.ArithEvals': WHATEVER THE INPUT: true; the input reads as it did. -/
def arithEvalsSpec : ChangeSpec := { name := "arithEvals", fn := fun _ => fun
  | [d1, d2] => { results := [.lit (.bool true)], args := [d1, d2] }
  | _ => none }
def arithEvalsRow : OpenClaim := { program := "ytpjbklajjikgjaadoor", sum := "11a974003ef1448c169fd7bd2661d295e064794bd6173db4889909daf462c42d", func := "quartermaster/quartermasterlaw7.ArithEvals", spec := "arithEvals", inPlace := ["internal/bytealg.IndexByteString", "internal/bytealg.IndexString"], unfollowed := true, recurses := true, named := ["unicode/utf8.first", "unicode/utf8.acceptRanges", "internal/bytealg.MaxLen"], apart := false, laid := [("unicode/utf8.acceptRanges", laid_unicode_utf8_acceptRanges), ("unicode/utf8.first", laid_unicode_utf8_first)] }
def ArithEvalsSaid : Prop := arithEvalsRow.holds Tryd.pinned (OpenSpec.ofChange arithEvalsSpec)

/-- ITS FALSE NEIGHBOUR: 'it returns false'. Refute it at one input. -/
def arithEvalsWrong : ChangeSpec := { name := "arithEvals", fn := fun _ => fun
  | [d1, d2] => { results := [.lit (.bool false)], args := [d1, d2] }
  | _ => none }
def ArithEvalsWrongFalsely : Prop := arithEvalsRow.holds Tryd.pinned (OpenSpec.ofChange arithEvalsWrong)

/-- 'quartermasterlaw7.ArithNumbers': WHATEVER THE INPUT: true; the input reads as it did. -/
def arithNumbersSpec : ChangeSpec := { name := "arithNumbers", fn := fun _ => fun
  | [d1, d2, d3, d4] => { results := [.lit (.bool true)], args := [d1, d2, d3, d4] }
  | _ => none }
def arithNumbersRow : OpenClaim := { program := "ytpjbklajjikgjaadoor", sum := "11a974003ef1448c169fd7bd2661d295e064794bd6173db4889909daf462c42d", func := "quartermaster/quartermasterlaw7.ArithNumbers", spec := "arithNumbers", inPlace := ["internal/bytealg.IndexByteString", "internal/bytealg.IndexString"], unfollowed := true, recurses := true, named := ["unicode/utf8.first", "unicode/utf8.acceptRanges", "internal/bytealg.MaxLen"], apart := false, laid := [("unicode/utf8.acceptRanges", laid_unicode_utf8_acceptRanges), ("unicode/utf8.first", laid_unicode_utf8_first)] }
def ArithNumbersSaid : Prop := arithNumbersRow.holds Tryd.pinned (OpenSpec.ofChange arithNumbersSpec)

/-- ITS FALSE NEIGHBOUR: 'it returns false'. Refute it at one input. -/
def arithNumbersWrong : ChangeSpec := { name := "arithNumbers", fn := fun _ => fun
  | [d1, d2, d3, d4] => { results := [.lit (.bool false)], args := [d1, d2, d3, d4] }
  | _ => none }
def ArithNumbersWrongFalsely : Prop := arithNumbersRow.holds Tryd.pinned (OpenSpec.ofChange arithNumbersWrong)

/-- 'quartermasterlaw7.ArithLevels': WHATEVER THE INPUT: true; the input reads as it did. -/
def arithLevelsSpec : ChangeSpec := { name := "arithLevels", fn := fun _ => fun
  | [d1, d2, d3, d4, d5] => { results := [.lit (.bool true)], args := [d1, d2, d3, d4, d5] }
  | _ => none }
def arithLevelsRow : OpenClaim := { program := "ytpjbklajjikgjaadoor", sum := "11a974003ef1448c169fd7bd2661d295e064794bd6173db4889909daf462c42d", func := "quartermaster/quartermasterlaw7.ArithLevels", spec := "arithLevels", inPlace := ["internal/bytealg.IndexByteString", "internal/bytealg.IndexString"], unfollowed := true, recurses := true, named := ["unicode/utf8.first", "unicode/utf8.acceptRanges", "internal/bytealg.MaxLen"], apart := false, laid := [("unicode/utf8.acceptRanges", laid_unicode_utf8_acceptRanges), ("unicode/utf8.first", laid_unicode_utf8_first)] }
def ArithLevelsSaid : Prop := arithLevelsRow.holds Tryd.pinned (OpenSpec.ofChange arithLevelsSpec)

/-- ITS FALSE NEIGHBOUR: 'it returns false'. Refute it at one input. -/
def arithLevelsWrong : ChangeSpec := { name := "arithLevels", fn := fun _ => fun
  | [d1, d2, d3, d4, d5] => { results := [.lit (.bool false)], args := [d1, d2, d3, d4, d5] }
  | _ => none }
def ArithLevelsWrongFalsely : Prop := arithLevelsRow.holds Tryd.pinned (OpenSpec.ofChange arithLevelsWrong)

/-- 'quartermasterlaw7.ArithSigns': WHATEVER THE INPUT: true; the input reads as it did. -/
def arithSignsSpec : ChangeSpec := { name := "arithSigns", fn := fun _ => fun
  | [d1, d2] => { results := [.lit (.bool true)], args := [d1, d2] }
  | _ => none }
def arithSignsRow : OpenClaim := { program := "ytpjbklajjikgjaadoor", sum := "11a974003ef1448c169fd7bd2661d295e064794bd6173db4889909daf462c42d", func := "quartermaster/quartermasterlaw7.ArithSigns", spec := "arithSigns", inPlace := ["internal/bytealg.IndexByteString", "internal/bytealg.IndexString"], unfollowed := true, recurses := true, named := ["unicode/utf8.first", "unicode/utf8.acceptRanges", "internal/bytealg.MaxLen"], apart := false, laid := [("unicode/utf8.acceptRanges", laid_unicode_utf8_acceptRanges), ("unicode/utf8.first", laid_unicode_utf8_first)] }
def ArithSignsSaid : Prop := arithSignsRow.holds Tryd.pinned (OpenSpec.ofChange arithSignsSpec)

/-- ITS FALSE NEIGHBOUR: 'it returns false'. Refute it at one input. -/
def arithSignsWrong : ChangeSpec := { name := "arithSigns", fn := fun _ => fun
  | [d1, d2] => { results := [.lit (.bool false)], args := [d1, d2] }
  | _ => none }
def ArithSignsWrongFalsely : Prop := arithSignsRow.holds Tryd.pinned (OpenSpec.ofChange arithSignsWrong)

/-- 'quartermasterlaw7.ArithNames': WHATEVER THE INPUT: true; the input reads as it did. -/
def arithNamesSpec : ChangeSpec := { name := "arithNames", fn := fun _ => fun
  | [d1, d2, d3] => { results := [.lit (.bool true)], args := [d1, d2, d3] }
  | _ => none }
def arithNamesRow : OpenClaim := { program := "ytpjbklajjikgjaadoor", sum := "11a974003ef1448c169fd7bd2661d295e064794bd6173db4889909daf462c42d", func := "quartermaster/quartermasterlaw7.ArithNames", spec := "arithNames", inPlace := ["internal/bytealg.IndexByteString", "internal/bytealg.IndexString"], unfollowed := true, recurses := true, named := ["unicode/utf8.first", "unicode/utf8.acceptRanges", "internal/bytealg.MaxLen"], apart := false, laid := [("unicode/utf8.acceptRanges", laid_unicode_utf8_acceptRanges), ("unicode/utf8.first", laid_unicode_utf8_first)] }
def ArithNamesSaid : Prop := arithNamesRow.holds Tryd.pinned (OpenSpec.ofChange arithNamesSpec)

/-- ITS FALSE NEIGHBOUR: 'it returns false'. Refute it at one input. -/
def arithNamesWrong : ChangeSpec := { name := "arithNames", fn := fun _ => fun
  | [d1, d2, d3] => { results := [.lit (.bool false)], args := [d1, d2, d3] }
  | _ => none }
def ArithNamesWrongFalsely : Prop := arithNamesRow.holds Tryd.pinned (OpenSpec.ofChange arithNamesWrong)

/-- 'quartermasterlaw7.ArithDeep': WHATEVER THE INPUT: true; the input reads as it did. -/
def arithDeepSpec : ChangeSpec := { name := "arithDeep", fn := fun _ => fun
  | [d1, d2] => { results := [.lit (.bool true)], args := [d1, d2] }
  | _ => none }
def arithDeepRow : OpenClaim := { program := "ytpjbklajjikgjaadoor", sum := "11a974003ef1448c169fd7bd2661d295e064794bd6173db4889909daf462c42d", func := "quartermaster/quartermasterlaw7.ArithDeep", spec := "arithDeep", inPlace := ["internal/bytealg.IndexByteString", "internal/bytealg.IndexString"], unfollowed := true, recurses := true, named := ["unicode/utf8.first", "unicode/utf8.acceptRanges", "internal/bytealg.MaxLen"], apart := false, laid := [("unicode/utf8.acceptRanges", laid_unicode_utf8_acceptRanges), ("unicode/utf8.first", laid_unicode_utf8_first)] }
def ArithDeepSaid : Prop := arithDeepRow.holds Tryd.pinned (OpenSpec.ofChange arithDeepSpec)

/-- ITS FALSE NEIGHBOUR: 'it returns false'. Refute it at one input. -/
def arithDeepWrong : ChangeSpec := { name := "arithDeep", fn := fun _ => fun
  | [d1, d2] => { results := [.lit (.bool false)], args := [d1, d2] }
  | _ => none }
def ArithDeepWrongFalsely : Prop := arithDeepRow.holds Tryd.pinned (OpenSpec.ofChange arithDeepWrong)

/-- 'quartermasterlaw7.ArithWhole': WHATEVER THE INPUT: true; the input reads as it did. -/
def arithWholeSpec : ChangeSpec := { name := "arithWhole", fn := fun _ => fun
  | [d1, d2] => { results := [.lit (.bool true)], args := [d1, d2] }
  | _ => none }
def arithWholeRow : OpenClaim := { program := "ytpjbklajjikgjaadoor", sum := "11a974003ef1448c169fd7bd2661d295e064794bd6173db4889909daf462c42d", func := "quartermaster/quartermasterlaw7.ArithWhole", spec := "arithWhole", inPlace := ["internal/bytealg.IndexByteString", "internal/bytealg.IndexString"], unfollowed := true, recurses := true, named := ["unicode/utf8.first", "unicode/utf8.acceptRanges", "internal/bytealg.MaxLen"], apart := false, laid := [("unicode/utf8.acceptRanges", laid_unicode_utf8_acceptRanges), ("unicode/utf8.first", laid_unicode_utf8_first)] }
def ArithWholeSaid : Prop := arithWholeRow.holds Tryd.pinned (OpenSpec.ofChange arithWholeSpec)

/-- ITS FALSE NEIGHBOUR: 'it returns false'. Refute it at one input. -/
def arithWholeWrong : ChangeSpec := { name := "arithWhole", fn := fun _ => fun
  | [d1, d2] => { results := [.lit (.bool false)], args := [d1, d2] }
  | _ => none }
def ArithWholeWrongFalsely : Prop := arithWholeRow.holds Tryd.pinned (OpenSpec.ofChange arithWholeWrong)

/-- 'quartermasterlaw7.ArithSums': WHATEVER THE INPUT: true; the input reads as it did. -/
def arithSumsSpec : ChangeSpec := { name := "arithSums", fn := fun _ => fun
  | [d1, d2, d3] => { results := [.lit (.bool true)], args := [d1, d2, d3] }
  | _ => none }
def arithSumsRow : OpenClaim := { program := "ytpjbklajjikgjaadoor", sum := "11a974003ef1448c169fd7bd2661d295e064794bd6173db4889909daf462c42d", func := "quartermaster/quartermasterlaw7.ArithSums", spec := "arithSums", inPlace := ["internal/bytealg.IndexByteString", "internal/bytealg.IndexString"], unfollowed := true, recurses := true, named := ["unicode/utf8.first", "unicode/utf8.acceptRanges", "internal/bytealg.MaxLen"], apart := false, laid := [("unicode/utf8.acceptRanges", laid_unicode_utf8_acceptRanges), ("unicode/utf8.first", laid_unicode_utf8_first)] }
def ArithSumsSaid : Prop := arithSumsRow.holds Tryd.pinned (OpenSpec.ofChange arithSumsSpec)

/-- ITS FALSE NEIGHBOUR: 'it returns false'. Refute it at one input. -/
def arithSumsWrong : ChangeSpec := { name := "arithSums", fn := fun _ => fun
  | [d1, d2, d3] => { results := [.lit (.bool false)], args := [d1, d2, d3] }
  | _ => none }
def ArithSumsWrongFalsely : Prop := arithSumsRow.holds Tryd.pinned (OpenSpec.ofChange arithSumsWrong)

/-- 'quartermasterlaw7.ArithDigits': WHATEVER THE INPUT: true; the input reads as it did. -/
def arithDigitsSpec : ChangeSpec := { name := "arithDigits", fn := fun _ => fun
  | [d1, d2, d3] => { results := [.lit (.bool true)], args := [d1, d2, d3] }
  | _ => none }
def arithDigitsRow : OpenClaim := { program := "ytpjbklajjikgjaadoor", sum := "11a974003ef1448c169fd7bd2661d295e064794bd6173db4889909daf462c42d", func := "quartermaster/quartermasterlaw7.ArithDigits", spec := "arithDigits", inPlace := ["internal/bytealg.IndexByteString", "internal/bytealg.IndexString"], unfollowed := true, recurses := true, named := ["unicode/utf8.first", "unicode/utf8.acceptRanges", "internal/bytealg.MaxLen"], apart := false, laid := [("unicode/utf8.acceptRanges", laid_unicode_utf8_acceptRanges), ("unicode/utf8.first", laid_unicode_utf8_first)] }
def ArithDigitsSaid : Prop := arithDigitsRow.holds Tryd.pinned (OpenSpec.ofChange arithDigitsSpec)

/-- ITS FALSE NEIGHBOUR: 'it returns false'. Refute it at one input. -/
def arithDigitsWrong : ChangeSpec := { name := "arithDigits", fn := fun _ => fun
  | [d1, d2, d3] => { results := [.lit (.bool false)], args := [d1, d2, d3] }
  | _ => none }
def ArithDigitsWrongFalsely : Prop := arithDigitsRow.holds Tryd.pinned (OpenSpec.ofChange arithDigitsWrong)

/- THE SECOND FORM. 'bulk': how many values and letters a reading holds, each counted each time it is reached (what is shared counts as often as it is met; a slice's spare places count too). A statement '..UptoSaid' is the law's where the arguments, and the package variables that the reading takes, are together of bulk at most 1048576: NARROWER than '..Said'. Prove '..Said' where nothing that the law and all that it calls make is longer than what came in: it says more and counts as full. Else prove '..UptoSaid'. A law counts once. -/
mutual
def uptoBulk {H : Type} : DataW H → Nat
  | .lit (.string bytes) => bytes.length + 1
  | .lit _ => 1
  | .nil => 1
  | .ptr d => uptoBulk d + 1
  | .slice elems spare => uptoBulkAll elems + uptoBulkAll spare + 1
  | .agg parts => uptoBulkAll parts + 1
  | .iface _ d => uptoBulk d + 1
  | .map entries => uptoBulkEntries entries + 1
  | .held _ => 1
def uptoBulkAll {H : Type} : List (DataW H) → Nat
  | [] => 0
  | d :: r => uptoBulk d + uptoBulkAll r
def uptoBulkEntries {H : Type} : List (Lit × DataW H) → Nat
  | [] => 0
  | x :: r => uptoBulkEntry x + uptoBulkEntries r
def uptoBulkEntry {H : Type} : Lit × DataW H → Nat
  | (.string bytes, d) => bytes.length + uptoBulk d + 1
  | (_, d) => uptoBulk d + 1
 end
def uptoSmall : (H : Type) → List (DataW H) → Bool := fun _ ds => decide (uptoBulkAll ds ≤ 1048576)
def OpenSpec.upto (s : _root_.Go.ChangeSpec) : _root_.Go.OpenSpec := { _root_.Go.OpenSpec.ofChange s with cond := some uptoSmall }

/-- 'quartermasterlaw7.ArithEvals', WHERE WHAT IT READS IS OF BULK AT MOST 1048576: true; the input reads as it did. -/
def arithEvalsUptoRow : OpenClaim := { program := "ytpjbklajjikgjaadoor", sum := "11a974003ef1448c169fd7bd2661d295e064794bd6173db4889909daf462c42d", func := "quartermaster/quartermasterlaw7.ArithEvals", spec := "arithEvals", inPlace := ["internal/bytealg.IndexByteString", "internal/bytealg.IndexString"], unfollowed := true, recurses := true, named := ["unicode/utf8.first", "unicode/utf8.acceptRanges", "internal/bytealg.MaxLen"], apart := false, laid := [("unicode/utf8.acceptRanges", laid_unicode_utf8_acceptRanges), ("unicode/utf8.first", laid_unicode_utf8_first)], narrowed := true }
def ArithEvalsUptoSaid : Prop := arithEvalsUptoRow.holds Tryd.pinned (OpenSpec.upto arithEvalsSpec)

/-- 'quartermasterlaw7.ArithNumbers', WHERE WHAT IT READS IS OF BULK AT MOST 1048576: true; the input reads as it did. -/
def arithNumbersUptoRow : OpenClaim := { program := "ytpjbklajjikgjaadoor", sum := "11a974003ef1448c169fd7bd2661d295e064794bd6173db4889909daf462c42d", func := "quartermaster/quartermasterlaw7.ArithNumbers", spec := "arithNumbers", inPlace := ["internal/bytealg.IndexByteString", "internal/bytealg.IndexString"], unfollowed := true, recurses := true, named := ["unicode/utf8.first", "unicode/utf8.acceptRanges", "internal/bytealg.MaxLen"], apart := false, laid := [("unicode/utf8.acceptRanges", laid_unicode_utf8_acceptRanges), ("unicode/utf8.first", laid_unicode_utf8_first)], narrowed := true }
def ArithNumbersUptoSaid : Prop := arithNumbersUptoRow.holds Tryd.pinned (OpenSpec.upto arithNumbersSpec)

/-- 'quartermasterlaw7.ArithLevels', WHERE WHAT IT READS IS OF BULK AT MOST 1048576: true; the input reads as it did. -/
def arithLevelsUptoRow : OpenClaim := { program := "ytpjbklajjikgjaadoor", sum := "11a974003ef1448c169fd7bd2661d295e064794bd6173db4889909daf462c42d", func := "quartermaster/quartermasterlaw7.ArithLevels", spec := "arithLevels", inPlace := ["internal/bytealg.IndexByteString", "internal/bytealg.IndexString"], unfollowed := true, recurses := true, named := ["unicode/utf8.first", "unicode/utf8.acceptRanges", "internal/bytealg.MaxLen"], apart := false, laid := [("unicode/utf8.acceptRanges", laid_unicode_utf8_acceptRanges), ("unicode/utf8.first", laid_unicode_utf8_first)], narrowed := true }
def ArithLevelsUptoSaid : Prop := arithLevelsUptoRow.holds Tryd.pinned (OpenSpec.upto arithLevelsSpec)

/-- 'quartermasterlaw7.ArithSigns', WHERE WHAT IT READS IS OF BULK AT MOST 1048576: true; the input reads as it did. -/
def arithSignsUptoRow : OpenClaim := { program := "ytpjbklajjikgjaadoor", sum := "11a974003ef1448c169fd7bd2661d295e064794bd6173db4889909daf462c42d", func := "quartermaster/quartermasterlaw7.ArithSigns", spec := "arithSigns", inPlace := ["internal/bytealg.IndexByteString", "internal/bytealg.IndexString"], unfollowed := true, recurses := true, named := ["unicode/utf8.first", "unicode/utf8.acceptRanges", "internal/bytealg.MaxLen"], apart := false, laid := [("unicode/utf8.acceptRanges", laid_unicode_utf8_acceptRanges), ("unicode/utf8.first", laid_unicode_utf8_first)], narrowed := true }
def ArithSignsUptoSaid : Prop := arithSignsUptoRow.holds Tryd.pinned (OpenSpec.upto arithSignsSpec)

/-- 'quartermasterlaw7.ArithNames', WHERE WHAT IT READS IS OF BULK AT MOST 1048576: true; the input reads as it did. -/
def arithNamesUptoRow : OpenClaim := { program := "ytpjbklajjikgjaadoor", sum := "11a974003ef1448c169fd7bd2661d295e064794bd6173db4889909daf462c42d", func := "quartermaster/quartermasterlaw7.ArithNames", spec := "arithNames", inPlace := ["internal/bytealg.IndexByteString", "internal/bytealg.IndexString"], unfollowed := true, recurses := true, named := ["unicode/utf8.first", "unicode/utf8.acceptRanges", "internal/bytealg.MaxLen"], apart := false, laid := [("unicode/utf8.acceptRanges", laid_unicode_utf8_acceptRanges), ("unicode/utf8.first", laid_unicode_utf8_first)], narrowed := true }
def ArithNamesUptoSaid : Prop := arithNamesUptoRow.holds Tryd.pinned (OpenSpec.upto arithNamesSpec)

/-- 'quartermasterlaw7.ArithDeep', WHERE WHAT IT READS IS OF BULK AT MOST 1048576: true; the input reads as it did. -/
def arithDeepUptoRow : OpenClaim := { program := "ytpjbklajjikgjaadoor", sum := "11a974003ef1448c169fd7bd2661d295e064794bd6173db4889909daf462c42d", func := "quartermaster/quartermasterlaw7.ArithDeep", spec := "arithDeep", inPlace := ["internal/bytealg.IndexByteString", "internal/bytealg.IndexString"], unfollowed := true, recurses := true, named := ["unicode/utf8.first", "unicode/utf8.acceptRanges", "internal/bytealg.MaxLen"], apart := false, laid := [("unicode/utf8.acceptRanges", laid_unicode_utf8_acceptRanges), ("unicode/utf8.first", laid_unicode_utf8_first)], narrowed := true }
def ArithDeepUptoSaid : Prop := arithDeepUptoRow.holds Tryd.pinned (OpenSpec.upto arithDeepSpec)

/-- 'quartermasterlaw7.ArithWhole', WHERE WHAT IT READS IS OF BULK AT MOST 1048576: true; the input reads as it did. -/
def arithWholeUptoRow : OpenClaim := { program := "ytpjbklajjikgjaadoor", sum := "11a974003ef1448c169fd7bd2661d295e064794bd6173db4889909daf462c42d", func := "quartermaster/quartermasterlaw7.ArithWhole", spec := "arithWhole", inPlace := ["internal/bytealg.IndexByteString", "internal/bytealg.IndexString"], unfollowed := true, recurses := true, named := ["unicode/utf8.first", "unicode/utf8.acceptRanges", "internal/bytealg.MaxLen"], apart := false, laid := [("unicode/utf8.acceptRanges", laid_unicode_utf8_acceptRanges), ("unicode/utf8.first", laid_unicode_utf8_first)], narrowed := true }
def ArithWholeUptoSaid : Prop := arithWholeUptoRow.holds Tryd.pinned (OpenSpec.upto arithWholeSpec)

/-- 'quartermasterlaw7.ArithSums', WHERE WHAT IT READS IS OF BULK AT MOST 1048576: true; the input reads as it did. -/
def arithSumsUptoRow : OpenClaim := { program := "ytpjbklajjikgjaadoor", sum := "11a974003ef1448c169fd7bd2661d295e064794bd6173db4889909daf462c42d", func := "quartermaster/quartermasterlaw7.ArithSums", spec := "arithSums", inPlace := ["internal/bytealg.IndexByteString", "internal/bytealg.IndexString"], unfollowed := true, recurses := true, named := ["unicode/utf8.first", "unicode/utf8.acceptRanges", "internal/bytealg.MaxLen"], apart := false, laid := [("unicode/utf8.acceptRanges", laid_unicode_utf8_acceptRanges), ("unicode/utf8.first", laid_unicode_utf8_first)], narrowed := true }
def ArithSumsUptoSaid : Prop := arithSumsUptoRow.holds Tryd.pinned (OpenSpec.upto arithSumsSpec)

/-- 'quartermasterlaw7.ArithDigits', WHERE WHAT IT READS IS OF BULK AT MOST 1048576: true; the input reads as it did. -/
def arithDigitsUptoRow : OpenClaim := { program := "ytpjbklajjikgjaadoor", sum := "11a974003ef1448c169fd7bd2661d295e064794bd6173db4889909daf462c42d", func := "quartermaster/quartermasterlaw7.ArithDigits", spec := "arithDigits", inPlace := ["internal/bytealg.IndexByteString", "internal/bytealg.IndexString"], unfollowed := true, recurses := true, named := ["unicode/utf8.first", "unicode/utf8.acceptRanges", "internal/bytealg.MaxLen"], apart := false, laid := [("unicode/utf8.acceptRanges", laid_unicode_utf8_acceptRanges), ("unicode/utf8.first", laid_unicode_utf8_first)], narrowed := true }
def ArithDigitsUptoSaid : Prop := arithDigitsUptoRow.holds Tryd.pinned (OpenSpec.upto arithDigitsSpec)

end Rows
end Go.Proofs.YtpjbklajjikgjaaDoor
