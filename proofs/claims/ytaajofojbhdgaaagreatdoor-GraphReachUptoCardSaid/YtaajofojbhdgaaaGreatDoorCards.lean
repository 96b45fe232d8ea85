/-
  DERIVED. GIVEN WITH THE SEED: THE CARDS: each row of YtaajofojbhdgaaaGreatDoorRows.lean that lists a variable, with what it lists TIED to the program's text (the seventh form; the later family's looks); each row that meets fmt, with fmt's text TOLD by the authors' own Lean function (tested against real Go, not proved from fmt's source: count such statements apart). THE CARD IS WHAT COUNTS. Prove the row's statement (the work); the ties are given (YtaajofojbhdgaaaGreatDoorTie.lean); close each card by the builder's one call (the guide's Derived/Test/ToyasCard.lean, 'card_holds'). Laid BY PROGRAM, IN A SANDBOX (cutbox-door.mjs). By AI agents, Wed Nov 11 2026. No macro, syntax, notation, axiom, sorry.
-/
import Derived.Test.YtaajofojbhdgaaaGreatDoorRows
import GoSem.ClaimSeven
namespace Go.Proofs.YtaajofojbhdgaaaGreatDoor
namespace Rows

/-- THE TIED CARD OF 'quartermasterlaw26.TraceTells'. -/
def traceTellsCard : Claim7 := { stood := { row := traceTellsRow, standIns := [], harness := (true, "0a89877b14d24c51826cb8c4375566bfeb06c1f19d089625d57a8c5f5bc73be5"), looks := false }, kinds := [], alts := [], laidByText := true, laidKinds := [.data, .pinned], laidTests := true, laidLooks := .later }
def TraceTellsCardSaid : Prop := Claim7.holds Tryz.pinned (.plain (OpenSpec.ofChange traceTellsSpec)) traceTellsCard

/-- THE TIED CARD OF 'quartermasterlaw22.GraphBehind'. -/
def graphBehindCard : Claim7 := { stood := { row := graphBehindRow, standIns := [], harness := (true, "0a89877b14d24c51826cb8c4375566bfeb06c1f19d089625d57a8c5f5bc73be5"), looks := false }, kinds := [], alts := [], laidByText := true, laidKinds := [.data, .pinned], laidTests := true, laidLooks := .later }
def GraphBehindCardSaid : Prop := Claim7.holds Tryz.pinned (.plain (OpenSpec.ofChange graphBehindSpec)) graphBehindCard

/-- THE TIED CARD OF 'quartermasterlaw22.GraphReach'. -/
def graphReachCard : Claim7 := { stood := { row := graphReachRow, standIns := [], harness := (true, "0a89877b14d24c51826cb8c4375566bfeb06c1f19d089625d57a8c5f5bc73be5"), looks := false }, kinds := [], alts := [], laidByText := true, laidKinds := [.data, .pinned], laidTests := true, laidLooks := .later }
def GraphReachCardSaid : Prop := Claim7.holds Tryz.pinned (.plain (OpenSpec.ofChange graphReachSpec)) graphReachCard

/-- THE TIED CARD OF 'quartermasterlaw22.GraphOrders'. -/
def graphOrdersCard : Claim7 := { stood := { row := graphOrdersRow, standIns := [], harness := (true, "0a89877b14d24c51826cb8c4375566bfeb06c1f19d089625d57a8c5f5bc73be5"), looks := false }, kinds := [], alts := [], laidByText := true, laidKinds := [.data, .pinned], laidTests := true, laidLooks := .later }
def GraphOrdersCardSaid : Prop := Claim7.holds Tryz.pinned (.plain (OpenSpec.ofChange graphOrdersSpec)) graphOrdersCard

/-- THE SECOND FORM's CARD OF 'quartermasterlaw26.TraceTells'. -/
def traceTellsUptoCard : Claim7 := { stood := { row := traceTellsUptoRow, standIns := [], harness := (true, "0a89877b14d24c51826cb8c4375566bfeb06c1f19d089625d57a8c5f5bc73be5"), looks := false }, kinds := [], alts := [], laidByText := true, laidKinds := [.data, .pinned], laidTests := true, laidLooks := .later }
def TraceTellsUptoCardSaid : Prop := Claim7.holds Tryz.pinned (.plain (OpenSpec.upto traceTellsSpec)) traceTellsUptoCard

/-- THE SECOND FORM's CARD OF 'quartermasterlaw22.GraphBehind'. -/
def graphBehindUptoCard : Claim7 := { stood := { row := graphBehindUptoRow, standIns := [], harness := (true, "0a89877b14d24c51826cb8c4375566bfeb06c1f19d089625d57a8c5f5bc73be5"), looks := false }, kinds := [], alts := [], laidByText := true, laidKinds := [.data, .pinned], laidTests := true, laidLooks := .later }
def GraphBehindUptoCardSaid : Prop := Claim7.holds Tryz.pinned (.plain (OpenSpec.upto graphBehindSpec)) graphBehindUptoCard

/-- THE SECOND FORM's CARD OF 'quartermasterlaw22.GraphReach'. -/
def graphReachUptoCard : Claim7 := { stood := { row := graphReachUptoRow, standIns := [], harness := (true, "0a89877b14d24c51826cb8c4375566bfeb06c1f19d089625d57a8c5f5bc73be5"), looks := false }, kinds := [], alts := [], laidByText := true, laidKinds := [.data, .pinned], laidTests := true, laidLooks := .later }
def GraphReachUptoCardSaid : Prop := Claim7.holds Tryz.pinned (.plain (OpenSpec.upto graphReachSpec)) graphReachUptoCard

/-- THE SECOND FORM's CARD OF 'quartermasterlaw22.GraphOrders'. -/
def graphOrdersUptoCard : Claim7 := { stood := { row := graphOrdersUptoRow, standIns := [], harness := (true, "0a89877b14d24c51826cb8c4375566bfeb06c1f19d089625d57a8c5f5bc73be5"), looks := false }, kinds := [], alts := [], laidByText := true, laidKinds := [.data, .pinned], laidTests := true, laidLooks := .later }
def GraphOrdersUptoCardSaid : Prop := Claim7.holds Tryz.pinned (.plain (OpenSpec.upto graphOrdersSpec)) graphOrdersUptoCard
end Rows
end Go.Proofs.YtaajofojbhdgaaaGreatDoor
