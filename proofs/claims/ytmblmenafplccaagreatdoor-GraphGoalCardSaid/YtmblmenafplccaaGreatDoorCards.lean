/-
  DERIVED. GIVEN WITH THE SEED: THE CARDS: each row of YtmblmenafplccaaGreatDoorRows.lean that lists a variable, with what it lists TIED to the program's text (the seventh form; the later family's looks); each row that meets fmt, with fmt's text TOLD by the authors' own Lean function (tested against real Go, not proved from fmt's source: count such statements apart). THE CARD IS WHAT COUNTS. Prove the row's statement (the work); the ties are given (YtmblmenafplccaaGreatDoorTie.lean); close each card by the builder's one call (the guide's Derived/Test/ToyasCard.lean, 'card_holds'). Laid BY PROGRAM, IN A SANDBOX (cutbox-door.mjs). By AI agents, Wed Nov 11 2026. No macro, syntax, notation, axiom, sorry.
-/
import Derived.Test.YtmblmenafplccaaGreatDoorRows
import GoSem.ClaimSeven
namespace Go.Proofs.YtmblmenafplccaaGreatDoor
namespace Rows

/-- THE TIED CARD OF 'quartermasterlaw22.GraphRings'. -/
def graphRingsCard : Claim7 := { stood := { row := graphRingsRow, standIns := [], harness := (true, "e92358fe60bf7ff66d659c2caf42e92d93fef8ee358f0a60cf460c51dc462281"), looks := true }, kinds := [], alts := [], laidByText := true, laidKinds := [.data, .pinned], laidTests := true, laidLooks := .later }
def GraphRingsCardSaid : Prop := Claim7.holds Tryz.pinned (.plain (OpenSpec.ofChange graphRingsSpec)) graphRingsCard

/-- THE TIED CARD OF 'quartermasterlaw22.GraphGoal'. -/
def graphGoalCard : Claim7 := { stood := { row := graphGoalRow, standIns := [], harness := (true, "e92358fe60bf7ff66d659c2caf42e92d93fef8ee358f0a60cf460c51dc462281"), looks := true }, kinds := [], alts := [], laidByText := true, laidKinds := [.data, .pinned], laidTests := true, laidLooks := .later }
def GraphGoalCardSaid : Prop := Claim7.holds Tryz.pinned (.plain (OpenSpec.ofChange graphGoalSpec)) graphGoalCard

/-- THE TIED CARD OF 'quartermasterlaw4.VfsTurns'. -/
def vfsTurnsCard : Claim7 := { stood := { row := vfsTurnsRow, standIns := [], harness := (true, "e92358fe60bf7ff66d659c2caf42e92d93fef8ee358f0a60cf460c51dc462281"), looks := true }, kinds := [], alts := [], laidByText := true, laidKinds := [.data, .pinned], laidTests := true, laidLooks := .later }
def VfsTurnsCardSaid : Prop := Claim7.holds Tryz.pinned (.plain (OpenSpec.ofChange vfsTurnsSpec)) vfsTurnsCard

/-- THE TIED CARD OF 'quartermasterlaw4.VfsBounds'. -/
def vfsBoundsCard : Claim7 := { stood := { row := vfsBoundsRow, standIns := [], harness := (true, "e92358fe60bf7ff66d659c2caf42e92d93fef8ee358f0a60cf460c51dc462281"), looks := true }, kinds := [], alts := [], laidByText := true, laidKinds := [.data, .pinned], laidTests := true, laidLooks := .later }
def VfsBoundsCardSaid : Prop := Claim7.holds Tryz.pinned (.plain (OpenSpec.ofChange vfsBoundsSpec)) vfsBoundsCard

/-- THE TIED CARD OF 'quartermasterlaw4.VfsMoves'. -/
def vfsMovesCard : Claim7 := { stood := { row := vfsMovesRow, standIns := [], harness := (true, "e92358fe60bf7ff66d659c2caf42e92d93fef8ee358f0a60cf460c51dc462281"), looks := true }, kinds := [], alts := [], laidByText := true, laidKinds := [.data, .pinned], laidTests := true, laidLooks := .later }
def VfsMovesCardSaid : Prop := Claim7.holds Tryz.pinned (.plain (OpenSpec.ofChange vfsMovesSpec)) vfsMovesCard

/-- THE TIED CARD OF 'quartermasterlaw23.AgeTells'. -/
def ageTellsCard : Claim7 := { stood := { row := ageTellsRow, standIns := [], harness := (true, "e92358fe60bf7ff66d659c2caf42e92d93fef8ee358f0a60cf460c51dc462281"), looks := true }, kinds := [], alts := [], laidByText := true, laidKinds := [.data, .pinned], laidTests := true, laidLooks := .later }
def AgeTellsCardSaid : Prop := Claim7.holds Tryz.pinned (.plain (OpenSpec.ofChange ageTellsSpec)) ageTellsCard

/-- THE TIED CARD OF 'quartermasterlaw4.VfsCopies'. -/
def vfsCopiesCard : Claim7 := { stood := { row := vfsCopiesRow, standIns := [], harness := (true, "e92358fe60bf7ff66d659c2caf42e92d93fef8ee358f0a60cf460c51dc462281"), looks := true }, kinds := [], alts := [], laidByText := true, laidKinds := [.data, .pinned], laidTests := true, laidLooks := .later }
def VfsCopiesCardSaid : Prop := Claim7.holds Tryz.pinned (.plain (OpenSpec.ofChange vfsCopiesSpec)) vfsCopiesCard

/-- THE SECOND FORM's CARD OF 'quartermasterlaw22.GraphRings'. -/
def graphRingsUptoCard : Claim7 := { stood := { row := graphRingsUptoRow, standIns := [], harness := (true, "e92358fe60bf7ff66d659c2caf42e92d93fef8ee358f0a60cf460c51dc462281"), looks := true }, kinds := [], alts := [], laidByText := true, laidKinds := [.data, .pinned], laidTests := true, laidLooks := .later }
def GraphRingsUptoCardSaid : Prop := Claim7.holds Tryz.pinned (.plain (OpenSpec.upto graphRingsSpec)) graphRingsUptoCard

/-- THE SECOND FORM's CARD OF 'quartermasterlaw22.GraphGoal'. -/
def graphGoalUptoCard : Claim7 := { stood := { row := graphGoalUptoRow, standIns := [], harness := (true, "e92358fe60bf7ff66d659c2caf42e92d93fef8ee358f0a60cf460c51dc462281"), looks := true }, kinds := [], alts := [], laidByText := true, laidKinds := [.data, .pinned], laidTests := true, laidLooks := .later }
def GraphGoalUptoCardSaid : Prop := Claim7.holds Tryz.pinned (.plain (OpenSpec.upto graphGoalSpec)) graphGoalUptoCard

/-- THE SECOND FORM's CARD OF 'quartermasterlaw4.VfsTurns'. -/
def vfsTurnsUptoCard : Claim7 := { stood := { row := vfsTurnsUptoRow, standIns := [], harness := (true, "e92358fe60bf7ff66d659c2caf42e92d93fef8ee358f0a60cf460c51dc462281"), looks := true }, kinds := [], alts := [], laidByText := true, laidKinds := [.data, .pinned], laidTests := true, laidLooks := .later }
def VfsTurnsUptoCardSaid : Prop := Claim7.holds Tryz.pinned (.plain (OpenSpec.upto vfsTurnsSpec)) vfsTurnsUptoCard

/-- THE SECOND FORM's CARD OF 'quartermasterlaw4.VfsBounds'. -/
def vfsBoundsUptoCard : Claim7 := { stood := { row := vfsBoundsUptoRow, standIns := [], harness := (true, "e92358fe60bf7ff66d659c2caf42e92d93fef8ee358f0a60cf460c51dc462281"), looks := true }, kinds := [], alts := [], laidByText := true, laidKinds := [.data, .pinned], laidTests := true, laidLooks := .later }
def VfsBoundsUptoCardSaid : Prop := Claim7.holds Tryz.pinned (.plain (OpenSpec.upto vfsBoundsSpec)) vfsBoundsUptoCard

/-- THE SECOND FORM's CARD OF 'quartermasterlaw4.VfsMoves'. -/
def vfsMovesUptoCard : Claim7 := { stood := { row := vfsMovesUptoRow, standIns := [], harness := (true, "e92358fe60bf7ff66d659c2caf42e92d93fef8ee358f0a60cf460c51dc462281"), looks := true }, kinds := [], alts := [], laidByText := true, laidKinds := [.data, .pinned], laidTests := true, laidLooks := .later }
def VfsMovesUptoCardSaid : Prop := Claim7.holds Tryz.pinned (.plain (OpenSpec.upto vfsMovesSpec)) vfsMovesUptoCard

/-- THE SECOND FORM's CARD OF 'quartermasterlaw23.AgeTells'. -/
def ageTellsUptoCard : Claim7 := { stood := { row := ageTellsUptoRow, standIns := [], harness := (true, "e92358fe60bf7ff66d659c2caf42e92d93fef8ee358f0a60cf460c51dc462281"), looks := true }, kinds := [], alts := [], laidByText := true, laidKinds := [.data, .pinned], laidTests := true, laidLooks := .later }
def AgeTellsUptoCardSaid : Prop := Claim7.holds Tryz.pinned (.plain (OpenSpec.upto ageTellsSpec)) ageTellsUptoCard

/-- THE SECOND FORM's CARD OF 'quartermasterlaw4.VfsCopies'. -/
def vfsCopiesUptoCard : Claim7 := { stood := { row := vfsCopiesUptoRow, standIns := [], harness := (true, "e92358fe60bf7ff66d659c2caf42e92d93fef8ee358f0a60cf460c51dc462281"), looks := true }, kinds := [], alts := [], laidByText := true, laidKinds := [.data, .pinned], laidTests := true, laidLooks := .later }
def VfsCopiesUptoCardSaid : Prop := Claim7.holds Tryz.pinned (.plain (OpenSpec.upto vfsCopiesSpec)) vfsCopiesUptoCard
end Rows
end Go.Proofs.YtmblmenafplccaaGreatDoor
