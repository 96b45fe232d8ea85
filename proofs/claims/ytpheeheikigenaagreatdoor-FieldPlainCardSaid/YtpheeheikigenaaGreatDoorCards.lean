/-
  DERIVED. GIVEN WITH THE SEED: THE CARDS: each row of YtpheeheikigenaaGreatDoorRows.lean that lists a variable, with what it lists TIED to the program's text (the seventh form; the later family's looks); each row that meets fmt, with fmt's text TOLD by the authors' own Lean function (tested against real Go, not proved from fmt's source: count such statements apart). THE CARD IS WHAT COUNTS. Prove the row's statement (the work); the ties are given (YtpheeheikigenaaGreatDoorTie.lean); close each card by the builder's one call (the guide's Derived/Test/ToyasCard.lean, 'card_holds'). Laid BY PROGRAM, IN A SANDBOX (cutbox-door.mjs). By AI agents, Wed Nov 11 2026. No macro, syntax, notation, axiom, sorry.
-/
import Derived.Test.YtpheeheikigenaaGreatDoorRows
import GoSem.ClaimSeven
namespace Go.Proofs.YtpheeheikigenaaGreatDoor
namespace Rows

/-- THE TIED CARD OF 'quartermasterlaw20.RulesWrong'. -/
def rulesWrongCard : Claim7 := { stood := { row := rulesWrongRow, standIns := [], harness := (true, "0f1ade1e3fe9bc2888ecef33221dc55038f11388e39eea9f72a9975725eaa140"), looks := true }, kinds := [], alts := [], laidByText := true, laidKinds := [.data, .pinned], laidTests := true, laidLooks := .later }
def RulesWrongCardSaid : Prop := Claim7.holds Tryz.pinned (.plain (OpenSpec.ofChange rulesWrongSpec)) rulesWrongCard

/-- THE TIED CARD OF 'quartermasterlaw20.RulesLines'. -/
def rulesLinesCard : Claim7 := { stood := { row := rulesLinesRow, standIns := [], harness := (true, "0f1ade1e3fe9bc2888ecef33221dc55038f11388e39eea9f72a9975725eaa140"), looks := true }, kinds := [], alts := [], laidByText := true, laidKinds := [.data, .pinned], laidTests := true, laidLooks := .later }
def RulesLinesCardSaid : Prop := Claim7.holds Tryz.pinned (.plain (OpenSpec.ofChange rulesLinesSpec)) rulesLinesCard

/-- THE TIED CARD OF 'quartermasterlaw20.RulesMacros'. -/
def rulesMacrosCard : Claim7 := { stood := { row := rulesMacrosRow, standIns := [], harness := (true, "0f1ade1e3fe9bc2888ecef33221dc55038f11388e39eea9f72a9975725eaa140"), looks := true }, kinds := [], alts := [], laidByText := true, laidKinds := [.data, .pinned], laidTests := true, laidLooks := .later }
def RulesMacrosCardSaid : Prop := Claim7.holds Tryz.pinned (.plain (OpenSpec.ofChange rulesMacrosSpec)) rulesMacrosCard

/-- THE TIED CARD OF 'quartermasterlaw20.RulesExpands'. -/
def rulesExpandsCard : Claim7 := { stood := { row := rulesExpandsRow, standIns := [], harness := (true, "0f1ade1e3fe9bc2888ecef33221dc55038f11388e39eea9f72a9975725eaa140"), looks := true }, kinds := [], alts := [], laidByText := true, laidKinds := [.data, .pinned], laidTests := true, laidLooks := .later }
def RulesExpandsCardSaid : Prop := Claim7.holds Tryz.pinned (.plain (OpenSpec.ofChange rulesExpandsSpec)) rulesExpandsCard

/-- THE TIED CARD OF 'quartermasterlaw12.FieldPlain'. -/
def fieldPlainCard : Claim7 := { stood := { row := fieldPlainRow, standIns := [], harness := (true, "0f1ade1e3fe9bc2888ecef33221dc55038f11388e39eea9f72a9975725eaa140"), looks := true }, kinds := [], alts := [], laidByText := true, laidKinds := [.data, .pinned], laidTests := true, laidLooks := .later }
def FieldPlainCardSaid : Prop := Claim7.holds Tryz.pinned (.plain (OpenSpec.ofChange fieldPlainSpec)) fieldPlainCard

/-- THE TIED CARD OF 'quartermasterlaw20.RulesIncludes'. -/
def rulesIncludesCard : Claim7 := { stood := { row := rulesIncludesRow, standIns := [], harness := (true, "0f1ade1e3fe9bc2888ecef33221dc55038f11388e39eea9f72a9975725eaa140"), looks := true }, kinds := [], alts := [], laidByText := true, laidKinds := [.data, .pinned], laidTests := true, laidLooks := .later }
def RulesIncludesCardSaid : Prop := Claim7.holds Tryz.pinned (.plain (OpenSpec.ofChange rulesIncludesSpec)) rulesIncludesCard

/-- THE TIED CARD OF 'quartermasterlaw12.FieldStars'. -/
def fieldStarsCard : Claim7 := { stood := { row := fieldStarsRow, standIns := [], harness := (true, "0f1ade1e3fe9bc2888ecef33221dc55038f11388e39eea9f72a9975725eaa140"), looks := true }, kinds := [], alts := [], laidByText := true, laidKinds := [.data, .pinned], laidTests := true, laidLooks := .later }
def FieldStarsCardSaid : Prop := Claim7.holds Tryz.pinned (.plain (OpenSpec.ofChange fieldStarsSpec)) fieldStarsCard

/-- THE TIED CARD OF 'quartermasterlaw12.FieldDeep'. -/
def fieldDeepCard : Claim7 := { stood := { row := fieldDeepRow, standIns := [], harness := (true, "0f1ade1e3fe9bc2888ecef33221dc55038f11388e39eea9f72a9975725eaa140"), looks := true }, kinds := [], alts := [], laidByText := true, laidKinds := [.data, .pinned], laidTests := true, laidLooks := .later }
def FieldDeepCardSaid : Prop := Claim7.holds Tryz.pinned (.plain (OpenSpec.ofChange fieldDeepSpec)) fieldDeepCard

/-- THE TIED CARD OF 'quartermasterlaw12.FieldPaths'. -/
def fieldPathsCard : Claim7 := { stood := { row := fieldPathsRow, standIns := [], harness := (true, "0f1ade1e3fe9bc2888ecef33221dc55038f11388e39eea9f72a9975725eaa140"), looks := true }, kinds := [], alts := [], laidByText := true, laidKinds := [.data, .pinned], laidTests := true, laidLooks := .later }
def FieldPathsCardSaid : Prop := Claim7.holds Tryz.pinned (.plain (OpenSpec.ofChange fieldPathsSpec)) fieldPathsCard

/-- THE SECOND FORM's CARD OF 'quartermasterlaw20.RulesWrong'. -/
def rulesWrongUptoCard : Claim7 := { stood := { row := rulesWrongUptoRow, standIns := [], harness := (true, "0f1ade1e3fe9bc2888ecef33221dc55038f11388e39eea9f72a9975725eaa140"), looks := true }, kinds := [], alts := [], laidByText := true, laidKinds := [.data, .pinned], laidTests := true, laidLooks := .later }
def RulesWrongUptoCardSaid : Prop := Claim7.holds Tryz.pinned (.plain (OpenSpec.upto rulesWrongSpec)) rulesWrongUptoCard

/-- THE SECOND FORM's CARD OF 'quartermasterlaw20.RulesLines'. -/
def rulesLinesUptoCard : Claim7 := { stood := { row := rulesLinesUptoRow, standIns := [], harness := (true, "0f1ade1e3fe9bc2888ecef33221dc55038f11388e39eea9f72a9975725eaa140"), looks := true }, kinds := [], alts := [], laidByText := true, laidKinds := [.data, .pinned], laidTests := true, laidLooks := .later }
def RulesLinesUptoCardSaid : Prop := Claim7.holds Tryz.pinned (.plain (OpenSpec.upto rulesLinesSpec)) rulesLinesUptoCard

/-- THE SECOND FORM's CARD OF 'quartermasterlaw20.RulesMacros'. -/
def rulesMacrosUptoCard : Claim7 := { stood := { row := rulesMacrosUptoRow, standIns := [], harness := (true, "0f1ade1e3fe9bc2888ecef33221dc55038f11388e39eea9f72a9975725eaa140"), looks := true }, kinds := [], alts := [], laidByText := true, laidKinds := [.data, .pinned], laidTests := true, laidLooks := .later }
def RulesMacrosUptoCardSaid : Prop := Claim7.holds Tryz.pinned (.plain (OpenSpec.upto rulesMacrosSpec)) rulesMacrosUptoCard

/-- THE SECOND FORM's CARD OF 'quartermasterlaw20.RulesExpands'. -/
def rulesExpandsUptoCard : Claim7 := { stood := { row := rulesExpandsUptoRow, standIns := [], harness := (true, "0f1ade1e3fe9bc2888ecef33221dc55038f11388e39eea9f72a9975725eaa140"), looks := true }, kinds := [], alts := [], laidByText := true, laidKinds := [.data, .pinned], laidTests := true, laidLooks := .later }
def RulesExpandsUptoCardSaid : Prop := Claim7.holds Tryz.pinned (.plain (OpenSpec.upto rulesExpandsSpec)) rulesExpandsUptoCard

/-- THE SECOND FORM's CARD OF 'quartermasterlaw12.FieldPlain'. -/
def fieldPlainUptoCard : Claim7 := { stood := { row := fieldPlainUptoRow, standIns := [], harness := (true, "0f1ade1e3fe9bc2888ecef33221dc55038f11388e39eea9f72a9975725eaa140"), looks := true }, kinds := [], alts := [], laidByText := true, laidKinds := [.data, .pinned], laidTests := true, laidLooks := .later }
def FieldPlainUptoCardSaid : Prop := Claim7.holds Tryz.pinned (.plain (OpenSpec.upto fieldPlainSpec)) fieldPlainUptoCard

/-- THE SECOND FORM's CARD OF 'quartermasterlaw20.RulesIncludes'. -/
def rulesIncludesUptoCard : Claim7 := { stood := { row := rulesIncludesUptoRow, standIns := [], harness := (true, "0f1ade1e3fe9bc2888ecef33221dc55038f11388e39eea9f72a9975725eaa140"), looks := true }, kinds := [], alts := [], laidByText := true, laidKinds := [.data, .pinned], laidTests := true, laidLooks := .later }
def RulesIncludesUptoCardSaid : Prop := Claim7.holds Tryz.pinned (.plain (OpenSpec.upto rulesIncludesSpec)) rulesIncludesUptoCard

/-- THE SECOND FORM's CARD OF 'quartermasterlaw12.FieldStars'. -/
def fieldStarsUptoCard : Claim7 := { stood := { row := fieldStarsUptoRow, standIns := [], harness := (true, "0f1ade1e3fe9bc2888ecef33221dc55038f11388e39eea9f72a9975725eaa140"), looks := true }, kinds := [], alts := [], laidByText := true, laidKinds := [.data, .pinned], laidTests := true, laidLooks := .later }
def FieldStarsUptoCardSaid : Prop := Claim7.holds Tryz.pinned (.plain (OpenSpec.upto fieldStarsSpec)) fieldStarsUptoCard

/-- THE SECOND FORM's CARD OF 'quartermasterlaw12.FieldDeep'. -/
def fieldDeepUptoCard : Claim7 := { stood := { row := fieldDeepUptoRow, standIns := [], harness := (true, "0f1ade1e3fe9bc2888ecef33221dc55038f11388e39eea9f72a9975725eaa140"), looks := true }, kinds := [], alts := [], laidByText := true, laidKinds := [.data, .pinned], laidTests := true, laidLooks := .later }
def FieldDeepUptoCardSaid : Prop := Claim7.holds Tryz.pinned (.plain (OpenSpec.upto fieldDeepSpec)) fieldDeepUptoCard

/-- THE SECOND FORM's CARD OF 'quartermasterlaw12.FieldPaths'. -/
def fieldPathsUptoCard : Claim7 := { stood := { row := fieldPathsUptoRow, standIns := [], harness := (true, "0f1ade1e3fe9bc2888ecef33221dc55038f11388e39eea9f72a9975725eaa140"), looks := true }, kinds := [], alts := [], laidByText := true, laidKinds := [.data, .pinned], laidTests := true, laidLooks := .later }
def FieldPathsUptoCardSaid : Prop := Claim7.holds Tryz.pinned (.plain (OpenSpec.upto fieldPathsSpec)) fieldPathsUptoCard
end Rows
end Go.Proofs.YtpheeheikigenaaGreatDoor
