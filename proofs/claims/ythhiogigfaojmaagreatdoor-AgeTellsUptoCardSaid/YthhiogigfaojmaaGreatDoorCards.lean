/-
  DERIVED. GIVEN WITH THE SEED: THE CARDS: each row of YthhiogigfaojmaaGreatDoorRows.lean that lists a variable, with what it lists TIED to the program's text (the seventh form; the later family's looks); each row that meets fmt, with fmt's text TOLD by the authors' own Lean function (tested against real Go, not proved from fmt's source: count such statements apart). THE CARD IS WHAT COUNTS. Prove the row's statement (the work); the ties are given (YthhiogigfaojmaaGreatDoorTie.lean); close each card by the builder's one call (the guide's Derived/Test/ToyasCard.lean, 'card_holds'). Laid BY PROGRAM, IN A SANDBOX (cutbox-door.mjs). By AI agents, Wed Nov 11 2026. No macro, syntax, notation, axiom, sorry.
-/
import Derived.Test.YthhiogigfaojmaaGreatDoorRows
import GoSem.ClaimSeven
namespace Go.Proofs.YthhiogigfaojmaaGreatDoor
namespace Rows

/-- THE TIED CARD OF 'quartermasterlaw23.AgeTells'. -/
def ageTellsCard : Claim7 := { stood := { row := ageTellsRow, standIns := [], harness := (true, "13d3c13ea719aade5a0274db82207d88be7965dc7adb6fbaa3186fa4d3ab9537"), looks := true }, kinds := [], alts := [], laidByText := true, laidKinds := [.data, .pinned], laidTests := true, laidLooks := .later }
def AgeTellsCardSaid : Prop := Claim7.holds Tryz.pinned (.plain (OpenSpec.ofChange ageTellsSpec)) ageTellsCard

/-- THE TIED CARD OF 'quartermasterlaw26.TraceTells'. -/
def traceTellsCard : Claim7 := { stood := { row := traceTellsRow, standIns := [], harness := (true, "13d3c13ea719aade5a0274db82207d88be7965dc7adb6fbaa3186fa4d3ab9537"), looks := true }, kinds := [], alts := [], laidByText := true, laidKinds := [.data, .pinned], laidTests := true, laidLooks := .later }
def TraceTellsCardSaid : Prop := Claim7.holds Tryz.pinned (.plain (OpenSpec.ofChange traceTellsSpec)) traceTellsCard

/-- THE TIED CARD OF 'quartermasterlaw22.GraphBehind'. -/
def graphBehindCard : Claim7 := { stood := { row := graphBehindRow, standIns := [], harness := (true, "13d3c13ea719aade5a0274db82207d88be7965dc7adb6fbaa3186fa4d3ab9537"), looks := true }, kinds := [], alts := [], laidByText := true, laidKinds := [.data, .pinned], laidTests := true, laidLooks := .later }
def GraphBehindCardSaid : Prop := Claim7.holds Tryz.pinned (.plain (OpenSpec.ofChange graphBehindSpec)) graphBehindCard

/-- THE TIED CARD OF 'quartermasterlaw22.GraphReach'. -/
def graphReachCard : Claim7 := { stood := { row := graphReachRow, standIns := [], harness := (true, "13d3c13ea719aade5a0274db82207d88be7965dc7adb6fbaa3186fa4d3ab9537"), looks := true }, kinds := [], alts := [], laidByText := true, laidKinds := [.data, .pinned], laidTests := true, laidLooks := .later }
def GraphReachCardSaid : Prop := Claim7.holds Tryz.pinned (.plain (OpenSpec.ofChange graphReachSpec)) graphReachCard

/-- THE TIED CARD OF 'quartermasterlaw22.GraphOrders'. -/
def graphOrdersCard : Claim7 := { stood := { row := graphOrdersRow, standIns := [], harness := (true, "13d3c13ea719aade5a0274db82207d88be7965dc7adb6fbaa3186fa4d3ab9537"), looks := true }, kinds := [], alts := [], laidByText := true, laidKinds := [.data, .pinned], laidTests := true, laidLooks := .later }
def GraphOrdersCardSaid : Prop := Claim7.holds Tryz.pinned (.plain (OpenSpec.ofChange graphOrdersSpec)) graphOrdersCard

/-- THE TIED CARD OF 'quartermasterlaw20.RulesWrong'. -/
def rulesWrongCard : Claim7 := { stood := { row := rulesWrongRow, standIns := [], harness := (true, "13d3c13ea719aade5a0274db82207d88be7965dc7adb6fbaa3186fa4d3ab9537"), looks := true }, kinds := [], alts := [], laidByText := true, laidKinds := [.data, .pinned], laidTests := true, laidLooks := .later }
def RulesWrongCardSaid : Prop := Claim7.holds Tryz.pinned (.plain (OpenSpec.ofChange rulesWrongSpec)) rulesWrongCard

/-- THE TIED CARD OF 'quartermasterlaw20.RulesLines'. -/
def rulesLinesCard : Claim7 := { stood := { row := rulesLinesRow, standIns := [], harness := (true, "13d3c13ea719aade5a0274db82207d88be7965dc7adb6fbaa3186fa4d3ab9537"), looks := true }, kinds := [], alts := [], laidByText := true, laidKinds := [.data, .pinned], laidTests := true, laidLooks := .later }
def RulesLinesCardSaid : Prop := Claim7.holds Tryz.pinned (.plain (OpenSpec.ofChange rulesLinesSpec)) rulesLinesCard

/-- THE TIED CARD OF 'quartermasterlaw20.RulesMacros'. -/
def rulesMacrosCard : Claim7 := { stood := { row := rulesMacrosRow, standIns := [], harness := (true, "13d3c13ea719aade5a0274db82207d88be7965dc7adb6fbaa3186fa4d3ab9537"), looks := true }, kinds := [], alts := [], laidByText := true, laidKinds := [.data, .pinned], laidTests := true, laidLooks := .later }
def RulesMacrosCardSaid : Prop := Claim7.holds Tryz.pinned (.plain (OpenSpec.ofChange rulesMacrosSpec)) rulesMacrosCard

/-- THE TIED CARD OF 'quartermasterlaw20.RulesExpands'. -/
def rulesExpandsCard : Claim7 := { stood := { row := rulesExpandsRow, standIns := [], harness := (true, "13d3c13ea719aade5a0274db82207d88be7965dc7adb6fbaa3186fa4d3ab9537"), looks := true }, kinds := [], alts := [], laidByText := true, laidKinds := [.data, .pinned], laidTests := true, laidLooks := .later }
def RulesExpandsCardSaid : Prop := Claim7.holds Tryz.pinned (.plain (OpenSpec.ofChange rulesExpandsSpec)) rulesExpandsCard

/-- THE TIED CARD OF 'quartermasterlaw20.RulesIncludes'. -/
def rulesIncludesCard : Claim7 := { stood := { row := rulesIncludesRow, standIns := [], harness := (true, "13d3c13ea719aade5a0274db82207d88be7965dc7adb6fbaa3186fa4d3ab9537"), looks := true }, kinds := [], alts := [], laidByText := true, laidKinds := [.data, .pinned], laidTests := true, laidLooks := .later }
def RulesIncludesCardSaid : Prop := Claim7.holds Tryz.pinned (.plain (OpenSpec.ofChange rulesIncludesSpec)) rulesIncludesCard

/-- THE SECOND FORM's CARD OF 'quartermasterlaw23.AgeTells'. -/
def ageTellsUptoCard : Claim7 := { stood := { row := ageTellsUptoRow, standIns := [], harness := (true, "13d3c13ea719aade5a0274db82207d88be7965dc7adb6fbaa3186fa4d3ab9537"), looks := true }, kinds := [], alts := [], laidByText := true, laidKinds := [.data, .pinned], laidTests := true, laidLooks := .later }
def AgeTellsUptoCardSaid : Prop := Claim7.holds Tryz.pinned (.plain (OpenSpec.upto ageTellsSpec)) ageTellsUptoCard

/-- THE SECOND FORM's CARD OF 'quartermasterlaw26.TraceTells'. -/
def traceTellsUptoCard : Claim7 := { stood := { row := traceTellsUptoRow, standIns := [], harness := (true, "13d3c13ea719aade5a0274db82207d88be7965dc7adb6fbaa3186fa4d3ab9537"), looks := true }, kinds := [], alts := [], laidByText := true, laidKinds := [.data, .pinned], laidTests := true, laidLooks := .later }
def TraceTellsUptoCardSaid : Prop := Claim7.holds Tryz.pinned (.plain (OpenSpec.upto traceTellsSpec)) traceTellsUptoCard

/-- THE SECOND FORM's CARD OF 'quartermasterlaw22.GraphBehind'. -/
def graphBehindUptoCard : Claim7 := { stood := { row := graphBehindUptoRow, standIns := [], harness := (true, "13d3c13ea719aade5a0274db82207d88be7965dc7adb6fbaa3186fa4d3ab9537"), looks := true }, kinds := [], alts := [], laidByText := true, laidKinds := [.data, .pinned], laidTests := true, laidLooks := .later }
def GraphBehindUptoCardSaid : Prop := Claim7.holds Tryz.pinned (.plain (OpenSpec.upto graphBehindSpec)) graphBehindUptoCard

/-- THE SECOND FORM's CARD OF 'quartermasterlaw22.GraphReach'. -/
def graphReachUptoCard : Claim7 := { stood := { row := graphReachUptoRow, standIns := [], harness := (true, "13d3c13ea719aade5a0274db82207d88be7965dc7adb6fbaa3186fa4d3ab9537"), looks := true }, kinds := [], alts := [], laidByText := true, laidKinds := [.data, .pinned], laidTests := true, laidLooks := .later }
def GraphReachUptoCardSaid : Prop := Claim7.holds Tryz.pinned (.plain (OpenSpec.upto graphReachSpec)) graphReachUptoCard

/-- THE SECOND FORM's CARD OF 'quartermasterlaw22.GraphOrders'. -/
def graphOrdersUptoCard : Claim7 := { stood := { row := graphOrdersUptoRow, standIns := [], harness := (true, "13d3c13ea719aade5a0274db82207d88be7965dc7adb6fbaa3186fa4d3ab9537"), looks := true }, kinds := [], alts := [], laidByText := true, laidKinds := [.data, .pinned], laidTests := true, laidLooks := .later }
def GraphOrdersUptoCardSaid : Prop := Claim7.holds Tryz.pinned (.plain (OpenSpec.upto graphOrdersSpec)) graphOrdersUptoCard

/-- THE SECOND FORM's CARD OF 'quartermasterlaw20.RulesWrong'. -/
def rulesWrongUptoCard : Claim7 := { stood := { row := rulesWrongUptoRow, standIns := [], harness := (true, "13d3c13ea719aade5a0274db82207d88be7965dc7adb6fbaa3186fa4d3ab9537"), looks := true }, kinds := [], alts := [], laidByText := true, laidKinds := [.data, .pinned], laidTests := true, laidLooks := .later }
def RulesWrongUptoCardSaid : Prop := Claim7.holds Tryz.pinned (.plain (OpenSpec.upto rulesWrongSpec)) rulesWrongUptoCard

/-- THE SECOND FORM's CARD OF 'quartermasterlaw20.RulesLines'. -/
def rulesLinesUptoCard : Claim7 := { stood := { row := rulesLinesUptoRow, standIns := [], harness := (true, "13d3c13ea719aade5a0274db82207d88be7965dc7adb6fbaa3186fa4d3ab9537"), looks := true }, kinds := [], alts := [], laidByText := true, laidKinds := [.data, .pinned], laidTests := true, laidLooks := .later }
def RulesLinesUptoCardSaid : Prop := Claim7.holds Tryz.pinned (.plain (OpenSpec.upto rulesLinesSpec)) rulesLinesUptoCard

/-- THE SECOND FORM's CARD OF 'quartermasterlaw20.RulesMacros'. -/
def rulesMacrosUptoCard : Claim7 := { stood := { row := rulesMacrosUptoRow, standIns := [], harness := (true, "13d3c13ea719aade5a0274db82207d88be7965dc7adb6fbaa3186fa4d3ab9537"), looks := true }, kinds := [], alts := [], laidByText := true, laidKinds := [.data, .pinned], laidTests := true, laidLooks := .later }
def RulesMacrosUptoCardSaid : Prop := Claim7.holds Tryz.pinned (.plain (OpenSpec.upto rulesMacrosSpec)) rulesMacrosUptoCard

/-- THE SECOND FORM's CARD OF 'quartermasterlaw20.RulesExpands'. -/
def rulesExpandsUptoCard : Claim7 := { stood := { row := rulesExpandsUptoRow, standIns := [], harness := (true, "13d3c13ea719aade5a0274db82207d88be7965dc7adb6fbaa3186fa4d3ab9537"), looks := true }, kinds := [], alts := [], laidByText := true, laidKinds := [.data, .pinned], laidTests := true, laidLooks := .later }
def RulesExpandsUptoCardSaid : Prop := Claim7.holds Tryz.pinned (.plain (OpenSpec.upto rulesExpandsSpec)) rulesExpandsUptoCard

/-- THE SECOND FORM's CARD OF 'quartermasterlaw20.RulesIncludes'. -/
def rulesIncludesUptoCard : Claim7 := { stood := { row := rulesIncludesUptoRow, standIns := [], harness := (true, "13d3c13ea719aade5a0274db82207d88be7965dc7adb6fbaa3186fa4d3ab9537"), looks := true }, kinds := [], alts := [], laidByText := true, laidKinds := [.data, .pinned], laidTests := true, laidLooks := .later }
def RulesIncludesUptoCardSaid : Prop := Claim7.holds Tryz.pinned (.plain (OpenSpec.upto rulesIncludesSpec)) rulesIncludesUptoCard
end Rows
end Go.Proofs.YthhiogigfaojmaaGreatDoor
