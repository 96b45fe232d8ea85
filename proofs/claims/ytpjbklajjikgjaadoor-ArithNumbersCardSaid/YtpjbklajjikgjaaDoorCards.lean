/-
  DERIVED. GIVEN WITH THE SEED: THE CARDS: each row of YtpjbklajjikgjaaDoorRows.lean that lists a variable, with what it lists TIED to the program's text (the seventh form; the later family's looks); each row that meets fmt, with fmt's text TOLD by the authors' own Lean function (tested against real Go, not proved from fmt's source: count such statements apart). THE CARD IS WHAT COUNTS. Prove the row's statement (the work); the ties are given (YtpjbklajjikgjaaDoorTie.lean); close each card by the builder's one call (the guide's Derived/Test/ToyasCard.lean, 'card_holds'). Laid BY PROGRAM, IN A SANDBOX (cutbox-door.mjs). By AI agents, Wed Nov 11 2026. No macro, syntax, notation, axiom, sorry.
-/
import Derived.Test.YtpjbklajjikgjaaDoorRows
import GoSem.ClaimSeven
namespace Go.Proofs.YtpjbklajjikgjaaDoor
namespace Rows

/-- THE TIED CARD OF 'quartermasterlaw7.ArithEvals'. -/
def arithEvalsCard : Claim7 := { stood := { row := arithEvalsRow, standIns := [], harness := (true, "5ffe05209121850e64d004699d3866393a354fe038ebfb70af33abff1d0eff58"), looks := true }, kinds := [], alts := [], laidByText := true, laidKinds := [.data, .pinned], laidTests := true, laidLooks := .later }
def ArithEvalsCardSaid : Prop := Claim7.holds Tryd.pinned (.plain (OpenSpec.ofChange arithEvalsSpec)) arithEvalsCard

/-- THE TIED CARD OF 'quartermasterlaw7.ArithNumbers'. -/
def arithNumbersCard : Claim7 := { stood := { row := arithNumbersRow, standIns := [], harness := (true, "5ffe05209121850e64d004699d3866393a354fe038ebfb70af33abff1d0eff58"), looks := true }, kinds := [], alts := [], laidByText := true, laidKinds := [.data, .pinned], laidTests := true, laidLooks := .later }
def ArithNumbersCardSaid : Prop := Claim7.holds Tryd.pinned (.plain (OpenSpec.ofChange arithNumbersSpec)) arithNumbersCard

/-- THE TIED CARD OF 'quartermasterlaw7.ArithLevels'. -/
def arithLevelsCard : Claim7 := { stood := { row := arithLevelsRow, standIns := [], harness := (true, "5ffe05209121850e64d004699d3866393a354fe038ebfb70af33abff1d0eff58"), looks := true }, kinds := [], alts := [], laidByText := true, laidKinds := [.data, .pinned], laidTests := true, laidLooks := .later }
def ArithLevelsCardSaid : Prop := Claim7.holds Tryd.pinned (.plain (OpenSpec.ofChange arithLevelsSpec)) arithLevelsCard

/-- THE TIED CARD OF 'quartermasterlaw7.ArithSigns'. -/
def arithSignsCard : Claim7 := { stood := { row := arithSignsRow, standIns := [], harness := (true, "5ffe05209121850e64d004699d3866393a354fe038ebfb70af33abff1d0eff58"), looks := true }, kinds := [], alts := [], laidByText := true, laidKinds := [.data, .pinned], laidTests := true, laidLooks := .later }
def ArithSignsCardSaid : Prop := Claim7.holds Tryd.pinned (.plain (OpenSpec.ofChange arithSignsSpec)) arithSignsCard

/-- THE TIED CARD OF 'quartermasterlaw7.ArithNames'. -/
def arithNamesCard : Claim7 := { stood := { row := arithNamesRow, standIns := [], harness := (true, "5ffe05209121850e64d004699d3866393a354fe038ebfb70af33abff1d0eff58"), looks := true }, kinds := [], alts := [], laidByText := true, laidKinds := [.data, .pinned], laidTests := true, laidLooks := .later }
def ArithNamesCardSaid : Prop := Claim7.holds Tryd.pinned (.plain (OpenSpec.ofChange arithNamesSpec)) arithNamesCard

/-- THE TIED CARD OF 'quartermasterlaw7.ArithDeep'. -/
def arithDeepCard : Claim7 := { stood := { row := arithDeepRow, standIns := [], harness := (true, "5ffe05209121850e64d004699d3866393a354fe038ebfb70af33abff1d0eff58"), looks := true }, kinds := [], alts := [], laidByText := true, laidKinds := [.data, .pinned], laidTests := true, laidLooks := .later }
def ArithDeepCardSaid : Prop := Claim7.holds Tryd.pinned (.plain (OpenSpec.ofChange arithDeepSpec)) arithDeepCard

/-- THE TIED CARD OF 'quartermasterlaw7.ArithWhole'. -/
def arithWholeCard : Claim7 := { stood := { row := arithWholeRow, standIns := [], harness := (true, "5ffe05209121850e64d004699d3866393a354fe038ebfb70af33abff1d0eff58"), looks := true }, kinds := [], alts := [], laidByText := true, laidKinds := [.data, .pinned], laidTests := true, laidLooks := .later }
def ArithWholeCardSaid : Prop := Claim7.holds Tryd.pinned (.plain (OpenSpec.ofChange arithWholeSpec)) arithWholeCard

/-- THE TIED CARD OF 'quartermasterlaw7.ArithSums'. -/
def arithSumsCard : Claim7 := { stood := { row := arithSumsRow, standIns := [], harness := (true, "5ffe05209121850e64d004699d3866393a354fe038ebfb70af33abff1d0eff58"), looks := true }, kinds := [], alts := [], laidByText := true, laidKinds := [.data, .pinned], laidTests := true, laidLooks := .later }
def ArithSumsCardSaid : Prop := Claim7.holds Tryd.pinned (.plain (OpenSpec.ofChange arithSumsSpec)) arithSumsCard

/-- THE TIED CARD OF 'quartermasterlaw7.ArithDigits'. -/
def arithDigitsCard : Claim7 := { stood := { row := arithDigitsRow, standIns := [], harness := (true, "5ffe05209121850e64d004699d3866393a354fe038ebfb70af33abff1d0eff58"), looks := true }, kinds := [], alts := [], laidByText := true, laidKinds := [.data, .pinned], laidTests := true, laidLooks := .later }
def ArithDigitsCardSaid : Prop := Claim7.holds Tryd.pinned (.plain (OpenSpec.ofChange arithDigitsSpec)) arithDigitsCard

/-- THE SECOND FORM's CARD OF 'quartermasterlaw7.ArithEvals'. -/
def arithEvalsUptoCard : Claim7 := { stood := { row := arithEvalsUptoRow, standIns := [], harness := (true, "5ffe05209121850e64d004699d3866393a354fe038ebfb70af33abff1d0eff58"), looks := true }, kinds := [], alts := [], laidByText := true, laidKinds := [.data, .pinned], laidTests := true, laidLooks := .later }
def ArithEvalsUptoCardSaid : Prop := Claim7.holds Tryd.pinned (.plain (OpenSpec.upto arithEvalsSpec)) arithEvalsUptoCard

/-- THE SECOND FORM's CARD OF 'quartermasterlaw7.ArithNumbers'. -/
def arithNumbersUptoCard : Claim7 := { stood := { row := arithNumbersUptoRow, standIns := [], harness := (true, "5ffe05209121850e64d004699d3866393a354fe038ebfb70af33abff1d0eff58"), looks := true }, kinds := [], alts := [], laidByText := true, laidKinds := [.data, .pinned], laidTests := true, laidLooks := .later }
def ArithNumbersUptoCardSaid : Prop := Claim7.holds Tryd.pinned (.plain (OpenSpec.upto arithNumbersSpec)) arithNumbersUptoCard

/-- THE SECOND FORM's CARD OF 'quartermasterlaw7.ArithLevels'. -/
def arithLevelsUptoCard : Claim7 := { stood := { row := arithLevelsUptoRow, standIns := [], harness := (true, "5ffe05209121850e64d004699d3866393a354fe038ebfb70af33abff1d0eff58"), looks := true }, kinds := [], alts := [], laidByText := true, laidKinds := [.data, .pinned], laidTests := true, laidLooks := .later }
def ArithLevelsUptoCardSaid : Prop := Claim7.holds Tryd.pinned (.plain (OpenSpec.upto arithLevelsSpec)) arithLevelsUptoCard

/-- THE SECOND FORM's CARD OF 'quartermasterlaw7.ArithSigns'. -/
def arithSignsUptoCard : Claim7 := { stood := { row := arithSignsUptoRow, standIns := [], harness := (true, "5ffe05209121850e64d004699d3866393a354fe038ebfb70af33abff1d0eff58"), looks := true }, kinds := [], alts := [], laidByText := true, laidKinds := [.data, .pinned], laidTests := true, laidLooks := .later }
def ArithSignsUptoCardSaid : Prop := Claim7.holds Tryd.pinned (.plain (OpenSpec.upto arithSignsSpec)) arithSignsUptoCard

/-- THE SECOND FORM's CARD OF 'quartermasterlaw7.ArithNames'. -/
def arithNamesUptoCard : Claim7 := { stood := { row := arithNamesUptoRow, standIns := [], harness := (true, "5ffe05209121850e64d004699d3866393a354fe038ebfb70af33abff1d0eff58"), looks := true }, kinds := [], alts := [], laidByText := true, laidKinds := [.data, .pinned], laidTests := true, laidLooks := .later }
def ArithNamesUptoCardSaid : Prop := Claim7.holds Tryd.pinned (.plain (OpenSpec.upto arithNamesSpec)) arithNamesUptoCard

/-- THE SECOND FORM's CARD OF 'quartermasterlaw7.ArithDeep'. -/
def arithDeepUptoCard : Claim7 := { stood := { row := arithDeepUptoRow, standIns := [], harness := (true, "5ffe05209121850e64d004699d3866393a354fe038ebfb70af33abff1d0eff58"), looks := true }, kinds := [], alts := [], laidByText := true, laidKinds := [.data, .pinned], laidTests := true, laidLooks := .later }
def ArithDeepUptoCardSaid : Prop := Claim7.holds Tryd.pinned (.plain (OpenSpec.upto arithDeepSpec)) arithDeepUptoCard

/-- THE SECOND FORM's CARD OF 'quartermasterlaw7.ArithWhole'. -/
def arithWholeUptoCard : Claim7 := { stood := { row := arithWholeUptoRow, standIns := [], harness := (true, "5ffe05209121850e64d004699d3866393a354fe038ebfb70af33abff1d0eff58"), looks := true }, kinds := [], alts := [], laidByText := true, laidKinds := [.data, .pinned], laidTests := true, laidLooks := .later }
def ArithWholeUptoCardSaid : Prop := Claim7.holds Tryd.pinned (.plain (OpenSpec.upto arithWholeSpec)) arithWholeUptoCard

/-- THE SECOND FORM's CARD OF 'quartermasterlaw7.ArithSums'. -/
def arithSumsUptoCard : Claim7 := { stood := { row := arithSumsUptoRow, standIns := [], harness := (true, "5ffe05209121850e64d004699d3866393a354fe038ebfb70af33abff1d0eff58"), looks := true }, kinds := [], alts := [], laidByText := true, laidKinds := [.data, .pinned], laidTests := true, laidLooks := .later }
def ArithSumsUptoCardSaid : Prop := Claim7.holds Tryd.pinned (.plain (OpenSpec.upto arithSumsSpec)) arithSumsUptoCard

/-- THE SECOND FORM's CARD OF 'quartermasterlaw7.ArithDigits'. -/
def arithDigitsUptoCard : Claim7 := { stood := { row := arithDigitsUptoRow, standIns := [], harness := (true, "5ffe05209121850e64d004699d3866393a354fe038ebfb70af33abff1d0eff58"), looks := true }, kinds := [], alts := [], laidByText := true, laidKinds := [.data, .pinned], laidTests := true, laidLooks := .later }
def ArithDigitsUptoCardSaid : Prop := Claim7.holds Tryd.pinned (.plain (OpenSpec.upto arithDigitsSpec)) arithDigitsUptoCard
end Rows
end Go.Proofs.YtpjbklajjikgjaaDoor
