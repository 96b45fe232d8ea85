/-
  DERIVED. GIVEN WITH THE SEED: THE CARDS: each row of YtmblmenafplccaaDoorRows.lean that lists a variable, with what it lists TIED to the program's text (the seventh form; the later family's looks); each row that meets fmt, with fmt's text TOLD by the authors' own Lean function (tested against real Go, not proved from fmt's source: count such statements apart). THE CARD IS WHAT COUNTS. Prove the row's statement (the work); the ties are given (YtmblmenafplccaaDoorTie.lean); close each card by the builder's one call (the guide's Derived/Test/ToyasCard.lean, 'card_holds'). Laid BY PROGRAM, IN A SANDBOX (cutbox-door.mjs). By AI agents, Wed Nov 11 2026. No macro, syntax, notation, axiom, sorry.
-/
import Derived.Test.YtmblmenafplccaaDoorRows
import GoSem.ClaimSeven
namespace Go.Proofs.YtmblmenafplccaaDoor
namespace Rows

/-- THE TIED CARD OF 'quartermasterlaw21.FindChains'. -/
def findChainsCard : Claim7 := { stood := { row := findChainsRow, standIns := [], harness := (true, "8f98131bc4f6961030f26a967cbd57454fd3bd14c66797c18a5a9b48d04c2e28"), looks := true }, kinds := [], alts := [], laidByText := true, laidKinds := [.data, .pinned], laidTests := true, laidLooks := .later }
def FindChainsCardSaid : Prop := Claim7.holds Tryd.pinned (.plain (OpenSpec.ofChange findChainsSpec)) findChainsCard

/-- THE TIED CARD OF 'quartermasterlaw21.FindSuffixes'. -/
def findSuffixesCard : Claim7 := { stood := { row := findSuffixesRow, standIns := [], harness := (true, "8f98131bc4f6961030f26a967cbd57454fd3bd14c66797c18a5a9b48d04c2e28"), looks := true }, kinds := [], alts := [], laidByText := true, laidKinds := [.data, .pinned], laidTests := true, laidLooks := .later }
def FindSuffixesCardSaid : Prop := Claim7.holds Tryd.pinned (.plain (OpenSpec.ofChange findSuffixesSpec)) findSuffixesCard

/-- THE TIED CARD OF 'quartermasterlaw21.FindGathers'. -/
def findGathersCard : Claim7 := { stood := { row := findGathersRow, standIns := [], harness := (true, "8f98131bc4f6961030f26a967cbd57454fd3bd14c66797c18a5a9b48d04c2e28"), looks := true }, kinds := [], alts := [], laidByText := true, laidKinds := [.data, .pinned], laidTests := true, laidLooks := .later }
def FindGathersCardSaid : Prop := Claim7.holds Tryd.pinned (.plain (OpenSpec.ofChange findGathersSpec)) findGathersCard

/-- THE TIED CARD OF 'quartermasterlaw4.VfsLists'. -/
def vfsListsCard : Claim7 := { stood := { row := vfsListsRow, standIns := [], harness := (true, "8f98131bc4f6961030f26a967cbd57454fd3bd14c66797c18a5a9b48d04c2e28"), looks := true }, kinds := [], alts := [], laidByText := true, laidKinds := [.data, .pinned], laidTests := true, laidLooks := .later }
def VfsListsCardSaid : Prop := Claim7.holds Tryd.pinned (.plain (OpenSpec.ofChange vfsListsSpec)) vfsListsCard

/-- THE TIED CARD OF 'quartermasterlaw4.VfsErrors'. -/
def vfsErrorsCard : Claim7 := { stood := { row := vfsErrorsRow, standIns := [], harness := (true, "8f98131bc4f6961030f26a967cbd57454fd3bd14c66797c18a5a9b48d04c2e28"), looks := true }, kinds := [], alts := [], laidByText := true, laidKinds := [.data, .pinned], laidTests := true, laidLooks := .later }
def VfsErrorsCardSaid : Prop := Claim7.holds Tryd.pinned (.plain (OpenSpec.ofChange vfsErrorsSpec)) vfsErrorsCard

/-- THE SECOND FORM's CARD OF 'quartermasterlaw21.FindChains'. -/
def findChainsUptoCard : Claim7 := { stood := { row := findChainsUptoRow, standIns := [], harness := (true, "8f98131bc4f6961030f26a967cbd57454fd3bd14c66797c18a5a9b48d04c2e28"), looks := true }, kinds := [], alts := [], laidByText := true, laidKinds := [.data, .pinned], laidTests := true, laidLooks := .later }
def FindChainsUptoCardSaid : Prop := Claim7.holds Tryd.pinned (.plain (OpenSpec.upto findChainsSpec)) findChainsUptoCard

/-- THE SECOND FORM's CARD OF 'quartermasterlaw21.FindSuffixes'. -/
def findSuffixesUptoCard : Claim7 := { stood := { row := findSuffixesUptoRow, standIns := [], harness := (true, "8f98131bc4f6961030f26a967cbd57454fd3bd14c66797c18a5a9b48d04c2e28"), looks := true }, kinds := [], alts := [], laidByText := true, laidKinds := [.data, .pinned], laidTests := true, laidLooks := .later }
def FindSuffixesUptoCardSaid : Prop := Claim7.holds Tryd.pinned (.plain (OpenSpec.upto findSuffixesSpec)) findSuffixesUptoCard

/-- THE SECOND FORM's CARD OF 'quartermasterlaw21.FindGathers'. -/
def findGathersUptoCard : Claim7 := { stood := { row := findGathersUptoRow, standIns := [], harness := (true, "8f98131bc4f6961030f26a967cbd57454fd3bd14c66797c18a5a9b48d04c2e28"), looks := true }, kinds := [], alts := [], laidByText := true, laidKinds := [.data, .pinned], laidTests := true, laidLooks := .later }
def FindGathersUptoCardSaid : Prop := Claim7.holds Tryd.pinned (.plain (OpenSpec.upto findGathersSpec)) findGathersUptoCard

/-- THE SECOND FORM's CARD OF 'quartermasterlaw4.VfsLists'. -/
def vfsListsUptoCard : Claim7 := { stood := { row := vfsListsUptoRow, standIns := [], harness := (true, "8f98131bc4f6961030f26a967cbd57454fd3bd14c66797c18a5a9b48d04c2e28"), looks := true }, kinds := [], alts := [], laidByText := true, laidKinds := [.data, .pinned], laidTests := true, laidLooks := .later }
def VfsListsUptoCardSaid : Prop := Claim7.holds Tryd.pinned (.plain (OpenSpec.upto vfsListsSpec)) vfsListsUptoCard

/-- THE SECOND FORM's CARD OF 'quartermasterlaw4.VfsErrors'. -/
def vfsErrorsUptoCard : Claim7 := { stood := { row := vfsErrorsUptoRow, standIns := [], harness := (true, "8f98131bc4f6961030f26a967cbd57454fd3bd14c66797c18a5a9b48d04c2e28"), looks := true }, kinds := [], alts := [], laidByText := true, laidKinds := [.data, .pinned], laidTests := true, laidLooks := .later }
def VfsErrorsUptoCardSaid : Prop := Claim7.holds Tryd.pinned (.plain (OpenSpec.upto vfsErrorsSpec)) vfsErrorsUptoCard
end Rows
end Go.Proofs.YtmblmenafplccaaDoor
