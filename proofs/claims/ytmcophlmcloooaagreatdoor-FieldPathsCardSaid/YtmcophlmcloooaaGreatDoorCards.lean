/-
  DERIVED. GIVEN WITH THE SEED: THE CARDS: each row of YtmcophlmcloooaaGreatDoorRows.lean that lists a variable, with what it lists TIED to the program's text (the seventh form; the later family's looks); each row that meets fmt, with fmt's text TOLD by the authors' own Lean function (tested against real Go, not proved from fmt's source: count such statements apart). THE CARD IS WHAT COUNTS. Prove the row's statement (the work); the ties are given (YtmcophlmcloooaaGreatDoorTie.lean); close each card by the builder's one call (the guide's Derived/Test/ToyasCard.lean, 'card_holds'). Laid BY PROGRAM, IN A SANDBOX (cutbox-door.mjs). By AI agents, Wed Nov 11 2026. No macro, syntax, notation, axiom, sorry.
-/
import Derived.Test.YtmcophlmcloooaaGreatDoorRows
import GoSem.ClaimSeven
namespace Go.Proofs.YtmcophlmcloooaaGreatDoor
namespace Rows

/-- THE TIED CARD OF 'quartermasterlaw20.RulesIncludes'. -/
def rulesIncludesCard : Claim7 := { stood := { row := rulesIncludesRow, standIns := [], harness := (true, "7b07eb1588c35193b3148968be36d0d2c6f6274368aec042d019d9af3b704ed4"), looks := true }, kinds := [], alts := [], laidByText := true, laidKinds := [.data, .pinned], laidTests := true, laidLooks := .later }
def RulesIncludesCardSaid : Prop := Claim7.holds Tryz.pinned (.plain (OpenSpec.ofChange rulesIncludesSpec)) rulesIncludesCard

/-- THE TIED CARD OF 'quartermasterlaw12.FieldStars'. -/
def fieldStarsCard : Claim7 := { stood := { row := fieldStarsRow, standIns := [], harness := (true, "7b07eb1588c35193b3148968be36d0d2c6f6274368aec042d019d9af3b704ed4"), looks := true }, kinds := [], alts := [], laidByText := true, laidKinds := [.data, .pinned], laidTests := true, laidLooks := .later }
def FieldStarsCardSaid : Prop := Claim7.holds Tryz.pinned (.plain (OpenSpec.ofChange fieldStarsSpec)) fieldStarsCard

/-- THE TIED CARD OF 'quartermasterlaw12.FieldDeep'. -/
def fieldDeepCard : Claim7 := { stood := { row := fieldDeepRow, standIns := [], harness := (true, "7b07eb1588c35193b3148968be36d0d2c6f6274368aec042d019d9af3b704ed4"), looks := true }, kinds := [], alts := [], laidByText := true, laidKinds := [.data, .pinned], laidTests := true, laidLooks := .later }
def FieldDeepCardSaid : Prop := Claim7.holds Tryz.pinned (.plain (OpenSpec.ofChange fieldDeepSpec)) fieldDeepCard

/-- THE TIED CARD OF 'quartermasterlaw12.FieldPaths'. -/
def fieldPathsCard : Claim7 := { stood := { row := fieldPathsRow, standIns := [], harness := (true, "7b07eb1588c35193b3148968be36d0d2c6f6274368aec042d019d9af3b704ed4"), looks := true }, kinds := [], alts := [], laidByText := true, laidKinds := [.data, .pinned], laidTests := true, laidLooks := .later }
def FieldPathsCardSaid : Prop := Claim7.holds Tryz.pinned (.plain (OpenSpec.ofChange fieldPathsSpec)) fieldPathsCard

/-- THE SECOND FORM's CARD OF 'quartermasterlaw20.RulesIncludes'. -/
def rulesIncludesUptoCard : Claim7 := { stood := { row := rulesIncludesUptoRow, standIns := [], harness := (true, "7b07eb1588c35193b3148968be36d0d2c6f6274368aec042d019d9af3b704ed4"), looks := true }, kinds := [], alts := [], laidByText := true, laidKinds := [.data, .pinned], laidTests := true, laidLooks := .later }
def RulesIncludesUptoCardSaid : Prop := Claim7.holds Tryz.pinned (.plain (OpenSpec.upto rulesIncludesSpec)) rulesIncludesUptoCard

/-- THE SECOND FORM's CARD OF 'quartermasterlaw12.FieldStars'. -/
def fieldStarsUptoCard : Claim7 := { stood := { row := fieldStarsUptoRow, standIns := [], harness := (true, "7b07eb1588c35193b3148968be36d0d2c6f6274368aec042d019d9af3b704ed4"), looks := true }, kinds := [], alts := [], laidByText := true, laidKinds := [.data, .pinned], laidTests := true, laidLooks := .later }
def FieldStarsUptoCardSaid : Prop := Claim7.holds Tryz.pinned (.plain (OpenSpec.upto fieldStarsSpec)) fieldStarsUptoCard

/-- THE SECOND FORM's CARD OF 'quartermasterlaw12.FieldDeep'. -/
def fieldDeepUptoCard : Claim7 := { stood := { row := fieldDeepUptoRow, standIns := [], harness := (true, "7b07eb1588c35193b3148968be36d0d2c6f6274368aec042d019d9af3b704ed4"), looks := true }, kinds := [], alts := [], laidByText := true, laidKinds := [.data, .pinned], laidTests := true, laidLooks := .later }
def FieldDeepUptoCardSaid : Prop := Claim7.holds Tryz.pinned (.plain (OpenSpec.upto fieldDeepSpec)) fieldDeepUptoCard

/-- THE SECOND FORM's CARD OF 'quartermasterlaw12.FieldPaths'. -/
def fieldPathsUptoCard : Claim7 := { stood := { row := fieldPathsUptoRow, standIns := [], harness := (true, "7b07eb1588c35193b3148968be36d0d2c6f6274368aec042d019d9af3b704ed4"), looks := true }, kinds := [], alts := [], laidByText := true, laidKinds := [.data, .pinned], laidTests := true, laidLooks := .later }
def FieldPathsUptoCardSaid : Prop := Claim7.holds Tryz.pinned (.plain (OpenSpec.upto fieldPathsSpec)) fieldPathsUptoCard
end Rows
end Go.Proofs.YtmcophlmcloooaaGreatDoor
