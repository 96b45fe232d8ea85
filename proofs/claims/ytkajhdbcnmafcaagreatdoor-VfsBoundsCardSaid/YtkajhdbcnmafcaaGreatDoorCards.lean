/-
  DERIVED. GIVEN WITH THE SEED: THE CARDS: each row of YtkajhdbcnmafcaaGreatDoorRows.lean that lists a variable, with what it lists TIED to the program's text (the seventh form; the later family's looks); each row that meets fmt, with fmt's text TOLD by the authors' own Lean function (tested against real Go, not proved from fmt's source: count such statements apart). THE CARD IS WHAT COUNTS. Prove the row's statement (the work); the ties are given (YtkajhdbcnmafcaaGreatDoorTie.lean); close each card by the builder's one call (the guide's Derived/Test/ToyasCard.lean, 'card_holds'). Laid BY PROGRAM, IN A SANDBOX (cutbox-door.mjs). By AI agents, Wed Nov 11 2026. No macro, syntax, notation, axiom, sorry.
-/
import Derived.Test.YtkajhdbcnmafcaaGreatDoorRows
import GoSem.ClaimSeven
namespace Go.Proofs.YtkajhdbcnmafcaaGreatDoor
namespace Rows

/-- THE TIED CARD OF 'quartermasterlaw4.VfsTurns'. -/
def vfsTurnsCard : Claim7 := { stood := { row := vfsTurnsRow, standIns := [], harness := (true, "dd56558e46a19e934f10b538b69844dc51a5714b024d687cc1b21b592adb1e83"), looks := true }, kinds := [], alts := [], laidByText := true, laidKinds := [.data, .pinned], laidTests := true, laidLooks := .later }
def VfsTurnsCardSaid : Prop := Claim7.holds Tryz.pinned (.plain (OpenSpec.ofChange vfsTurnsSpec)) vfsTurnsCard

/-- THE TIED CARD OF 'quartermasterlaw4.VfsBounds'. -/
def vfsBoundsCard : Claim7 := { stood := { row := vfsBoundsRow, standIns := [], harness := (true, "dd56558e46a19e934f10b538b69844dc51a5714b024d687cc1b21b592adb1e83"), looks := true }, kinds := [], alts := [], laidByText := true, laidKinds := [.data, .pinned], laidTests := true, laidLooks := .later }
def VfsBoundsCardSaid : Prop := Claim7.holds Tryz.pinned (.plain (OpenSpec.ofChange vfsBoundsSpec)) vfsBoundsCard

/-- THE TIED CARD OF 'quartermasterlaw4.VfsMoves'. -/
def vfsMovesCard : Claim7 := { stood := { row := vfsMovesRow, standIns := [], harness := (true, "dd56558e46a19e934f10b538b69844dc51a5714b024d687cc1b21b592adb1e83"), looks := true }, kinds := [], alts := [], laidByText := true, laidKinds := [.data, .pinned], laidTests := true, laidLooks := .later }
def VfsMovesCardSaid : Prop := Claim7.holds Tryz.pinned (.plain (OpenSpec.ofChange vfsMovesSpec)) vfsMovesCard

/-- THE TIED CARD OF 'quartermasterlaw23.AgeTells'. -/
def ageTellsCard : Claim7 := { stood := { row := ageTellsRow, standIns := [], harness := (true, "dd56558e46a19e934f10b538b69844dc51a5714b024d687cc1b21b592adb1e83"), looks := true }, kinds := [], alts := [], laidByText := true, laidKinds := [.data, .pinned], laidTests := true, laidLooks := .later }
def AgeTellsCardSaid : Prop := Claim7.holds Tryz.pinned (.plain (OpenSpec.ofChange ageTellsSpec)) ageTellsCard

/-- THE TIED CARD OF 'quartermasterlaw4.VfsCopies'. -/
def vfsCopiesCard : Claim7 := { stood := { row := vfsCopiesRow, standIns := [], harness := (true, "dd56558e46a19e934f10b538b69844dc51a5714b024d687cc1b21b592adb1e83"), looks := true }, kinds := [], alts := [], laidByText := true, laidKinds := [.data, .pinned], laidTests := true, laidLooks := .later }
def VfsCopiesCardSaid : Prop := Claim7.holds Tryz.pinned (.plain (OpenSpec.ofChange vfsCopiesSpec)) vfsCopiesCard

/-- THE TIED CARD OF 'quartermasterlaw22.GraphBehind'. -/
def graphBehindCard : Claim7 := { stood := { row := graphBehindRow, standIns := [], harness := (true, "dd56558e46a19e934f10b538b69844dc51a5714b024d687cc1b21b592adb1e83"), looks := true }, kinds := [], alts := [], laidByText := true, laidKinds := [.data, .pinned], laidTests := true, laidLooks := .later }
def GraphBehindCardSaid : Prop := Claim7.holds Tryz.pinned (.plain (OpenSpec.ofChange graphBehindSpec)) graphBehindCard

/-- THE TIED CARD OF 'quartermasterlaw22.GraphReach'. -/
def graphReachCard : Claim7 := { stood := { row := graphReachRow, standIns := [], harness := (true, "dd56558e46a19e934f10b538b69844dc51a5714b024d687cc1b21b592adb1e83"), looks := true }, kinds := [], alts := [], laidByText := true, laidKinds := [.data, .pinned], laidTests := true, laidLooks := .later }
def GraphReachCardSaid : Prop := Claim7.holds Tryz.pinned (.plain (OpenSpec.ofChange graphReachSpec)) graphReachCard

/-- THE TIED CARD OF 'quartermasterlaw22.GraphOrders'. -/
def graphOrdersCard : Claim7 := { stood := { row := graphOrdersRow, standIns := [], harness := (true, "dd56558e46a19e934f10b538b69844dc51a5714b024d687cc1b21b592adb1e83"), looks := true }, kinds := [], alts := [], laidByText := true, laidKinds := [.data, .pinned], laidTests := true, laidLooks := .later }
def GraphOrdersCardSaid : Prop := Claim7.holds Tryz.pinned (.plain (OpenSpec.ofChange graphOrdersSpec)) graphOrdersCard

/-- THE SECOND FORM's CARD OF 'quartermasterlaw4.VfsTurns'. -/
def vfsTurnsUptoCard : Claim7 := { stood := { row := vfsTurnsUptoRow, standIns := [], harness := (true, "dd56558e46a19e934f10b538b69844dc51a5714b024d687cc1b21b592adb1e83"), looks := true }, kinds := [], alts := [], laidByText := true, laidKinds := [.data, .pinned], laidTests := true, laidLooks := .later }
def VfsTurnsUptoCardSaid : Prop := Claim7.holds Tryz.pinned (.plain (OpenSpec.upto vfsTurnsSpec)) vfsTurnsUptoCard

/-- THE SECOND FORM's CARD OF 'quartermasterlaw4.VfsBounds'. -/
def vfsBoundsUptoCard : Claim7 := { stood := { row := vfsBoundsUptoRow, standIns := [], harness := (true, "dd56558e46a19e934f10b538b69844dc51a5714b024d687cc1b21b592adb1e83"), looks := true }, kinds := [], alts := [], laidByText := true, laidKinds := [.data, .pinned], laidTests := true, laidLooks := .later }
def VfsBoundsUptoCardSaid : Prop := Claim7.holds Tryz.pinned (.plain (OpenSpec.upto vfsBoundsSpec)) vfsBoundsUptoCard

/-- THE SECOND FORM's CARD OF 'quartermasterlaw4.VfsMoves'. -/
def vfsMovesUptoCard : Claim7 := { stood := { row := vfsMovesUptoRow, standIns := [], harness := (true, "dd56558e46a19e934f10b538b69844dc51a5714b024d687cc1b21b592adb1e83"), looks := true }, kinds := [], alts := [], laidByText := true, laidKinds := [.data, .pinned], laidTests := true, laidLooks := .later }
def VfsMovesUptoCardSaid : Prop := Claim7.holds Tryz.pinned (.plain (OpenSpec.upto vfsMovesSpec)) vfsMovesUptoCard

/-- THE SECOND FORM's CARD OF 'quartermasterlaw23.AgeTells'. -/
def ageTellsUptoCard : Claim7 := { stood := { row := ageTellsUptoRow, standIns := [], harness := (true, "dd56558e46a19e934f10b538b69844dc51a5714b024d687cc1b21b592adb1e83"), looks := true }, kinds := [], alts := [], laidByText := true, laidKinds := [.data, .pinned], laidTests := true, laidLooks := .later }
def AgeTellsUptoCardSaid : Prop := Claim7.holds Tryz.pinned (.plain (OpenSpec.upto ageTellsSpec)) ageTellsUptoCard

/-- THE SECOND FORM's CARD OF 'quartermasterlaw4.VfsCopies'. -/
def vfsCopiesUptoCard : Claim7 := { stood := { row := vfsCopiesUptoRow, standIns := [], harness := (true, "dd56558e46a19e934f10b538b69844dc51a5714b024d687cc1b21b592adb1e83"), looks := true }, kinds := [], alts := [], laidByText := true, laidKinds := [.data, .pinned], laidTests := true, laidLooks := .later }
def VfsCopiesUptoCardSaid : Prop := Claim7.holds Tryz.pinned (.plain (OpenSpec.upto vfsCopiesSpec)) vfsCopiesUptoCard

/-- THE SECOND FORM's CARD OF 'quartermasterlaw22.GraphBehind'. -/
def graphBehindUptoCard : Claim7 := { stood := { row := graphBehindUptoRow, standIns := [], harness := (true, "dd56558e46a19e934f10b538b69844dc51a5714b024d687cc1b21b592adb1e83"), looks := true }, kinds := [], alts := [], laidByText := true, laidKinds := [.data, .pinned], laidTests := true, laidLooks := .later }
def GraphBehindUptoCardSaid : Prop := Claim7.holds Tryz.pinned (.plain (OpenSpec.upto graphBehindSpec)) graphBehindUptoCard

/-- THE SECOND FORM's CARD OF 'quartermasterlaw22.GraphReach'. -/
def graphReachUptoCard : Claim7 := { stood := { row := graphReachUptoRow, standIns := [], harness := (true, "dd56558e46a19e934f10b538b69844dc51a5714b024d687cc1b21b592adb1e83"), looks := true }, kinds := [], alts := [], laidByText := true, laidKinds := [.data, .pinned], laidTests := true, laidLooks := .later }
def GraphReachUptoCardSaid : Prop := Claim7.holds Tryz.pinned (.plain (OpenSpec.upto graphReachSpec)) graphReachUptoCard

/-- THE SECOND FORM's CARD OF 'quartermasterlaw22.GraphOrders'. -/
def graphOrdersUptoCard : Claim7 := { stood := { row := graphOrdersUptoRow, standIns := [], harness := (true, "dd56558e46a19e934f10b538b69844dc51a5714b024d687cc1b21b592adb1e83"), looks := true }, kinds := [], alts := [], laidByText := true, laidKinds := [.data, .pinned], laidTests := true, laidLooks := .later }
def GraphOrdersUptoCardSaid : Prop := Claim7.holds Tryz.pinned (.plain (OpenSpec.upto graphOrdersSpec)) graphOrdersUptoCard
end Rows
end Go.Proofs.YtkajhdbcnmafcaaGreatDoor
