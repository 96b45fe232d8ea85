/-
  DERIVED. GIVEN WITH THE SEED: THE CARDS: each row of YtkocnbehogefnaaDoorRows.lean that lists a variable, with what it lists TIED to the program's text (the seventh form; the later family's looks); each row that meets fmt, with fmt's text TOLD by the authors' own Lean function (tested against real Go, not proved from fmt's source: count such statements apart). THE CARD IS WHAT COUNTS. Prove the row's statement (the work); the ties are given (YtkocnbehogefnaaDoorTie.lean); close each card by the builder's one call (the guide's Derived/Test/ToyasCard.lean, 'card_holds'). Laid BY PROGRAM, IN A SANDBOX (cutbox-door.mjs). By AI agents, Wed Nov 11 2026. No macro, syntax, notation, axiom, sorry.
-/
import Derived.Test.YtkocnbehogefnaaDoorRows
import GoSem.ClaimSeven
namespace Go.Proofs.YtkocnbehogefnaaDoor
namespace Rows

/-- THE TIED CARD OF 'quartermasterlaw18.LinesParts'. -/
def linesPartsCard : Claim7 := { stood := { row := linesPartsRow, standIns := [], harness := (true, "d6f9b14533cf8f0b012b5646d312b3442ed6d8b419bd7b5f12736b4fef0c8f7c"), looks := false }, kinds := [], alts := [], laidByText := true, laidKinds := [.data, .pinned], laidTests := true, laidLooks := .later }
def LinesPartsCardSaid : Prop := Claim7.holds Tryd.pinned (.plain (OpenSpec.ofChange linesPartsSpec)) linesPartsCard

/-- THE TIED CARD OF 'quartermasterlaw18.LinesJoin'. -/
def linesJoinCard : Claim7 := { stood := { row := linesJoinRow, standIns := [], harness := (true, "d6f9b14533cf8f0b012b5646d312b3442ed6d8b419bd7b5f12736b4fef0c8f7c"), looks := false }, kinds := [], alts := [], laidByText := true, laidKinds := [.data, .pinned], laidTests := true, laidLooks := .later }
def LinesJoinCardSaid : Prop := Claim7.holds Tryd.pinned (.plain (OpenSpec.ofChange linesJoinSpec)) linesJoinCard

/-- THE TIED CARD OF 'quartermasterlaw18.LinesRead'. -/
def linesReadCard : Claim7 := { stood := { row := linesReadRow, standIns := [], harness := (true, "d6f9b14533cf8f0b012b5646d312b3442ed6d8b419bd7b5f12736b4fef0c8f7c"), looks := false }, kinds := [], alts := [], laidByText := true, laidKinds := [.data, .pinned], laidTests := true, laidLooks := .later }
def LinesReadCardSaid : Prop := Claim7.holds Tryd.pinned (.plain (OpenSpec.ofChange linesReadSpec)) linesReadCard

/-- THE SECOND FORM's CARD OF 'quartermasterlaw18.LinesParts'. -/
def linesPartsUptoCard : Claim7 := { stood := { row := linesPartsUptoRow, standIns := [], harness := (true, "d6f9b14533cf8f0b012b5646d312b3442ed6d8b419bd7b5f12736b4fef0c8f7c"), looks := false }, kinds := [], alts := [], laidByText := true, laidKinds := [.data, .pinned], laidTests := true, laidLooks := .later }
def LinesPartsUptoCardSaid : Prop := Claim7.holds Tryd.pinned (.plain (OpenSpec.upto linesPartsSpec)) linesPartsUptoCard

/-- THE SECOND FORM's CARD OF 'quartermasterlaw18.LinesJoin'. -/
def linesJoinUptoCard : Claim7 := { stood := { row := linesJoinUptoRow, standIns := [], harness := (true, "d6f9b14533cf8f0b012b5646d312b3442ed6d8b419bd7b5f12736b4fef0c8f7c"), looks := false }, kinds := [], alts := [], laidByText := true, laidKinds := [.data, .pinned], laidTests := true, laidLooks := .later }
def LinesJoinUptoCardSaid : Prop := Claim7.holds Tryd.pinned (.plain (OpenSpec.upto linesJoinSpec)) linesJoinUptoCard

/-- THE SECOND FORM's CARD OF 'quartermasterlaw18.LinesRead'. -/
def linesReadUptoCard : Claim7 := { stood := { row := linesReadUptoRow, standIns := [], harness := (true, "d6f9b14533cf8f0b012b5646d312b3442ed6d8b419bd7b5f12736b4fef0c8f7c"), looks := false }, kinds := [], alts := [], laidByText := true, laidKinds := [.data, .pinned], laidTests := true, laidLooks := .later }
def LinesReadUptoCardSaid : Prop := Claim7.holds Tryd.pinned (.plain (OpenSpec.upto linesReadSpec)) linesReadUptoCard
end Rows
end Go.Proofs.YtkocnbehogefnaaDoor
