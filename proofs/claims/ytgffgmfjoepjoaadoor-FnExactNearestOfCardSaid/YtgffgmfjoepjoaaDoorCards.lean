/-
  DERIVED. GIVEN WITH THE SEED: THE CARDS: each row of YtgffgmfjoepjoaaDoorRows.lean that lists a variable, with what it lists TIED to the program's text (the seventh form; the later family's looks); each row that meets fmt, with fmt's text TOLD by the authors' own Lean function (tested against real Go, not proved from fmt's source: count such statements apart). THE CARD IS WHAT COUNTS. Prove the row's statement (the work); the ties are given (YtgffgmfjoepjoaaDoorTie.lean); close each card by the builder's one call (the guide's Derived/Test/ToyasCard.lean, 'card_holds'). Laid BY PROGRAM, IN A SANDBOX (cutbox-door.mjs). By AI agents, Wed Nov 11 2026. No macro, syntax, notation, axiom, sorry.
-/
import Derived.Test.YtgffgmfjoepjoaaDoorRows
import GoSem.ClaimSeven
namespace Go.Proofs.YtgffgmfjoepjoaaDoor
namespace Rows

/-- THE TIED CARD OF 'laws.FnExactCountChoices'. -/
def fnExactCountChoicesCard : Claim7 := { stood := { row := fnExactCountChoicesRow, standIns := [], harness := (true, "292c62e6e578e09826bbafa738d30621874f3df78963d44829906323ee9c735d"), looks := false }, kinds := [], alts := [], laidByText := true, laidKinds := [.data, .data], laidTests := true, laidLooks := .later }
def FnExactCountChoicesCardSaid : Prop := Claim7.holds Tryd.pinned (.plain (OpenSpec.ofChange fnExactCountChoicesSpec)) fnExactCountChoicesCard

/-- THE TIED CARD OF 'laws.FnExactOrdersOf'. -/
def fnExactOrdersOfCard : Claim7 := { stood := { row := fnExactOrdersOfRow, standIns := [], harness := (true, "292c62e6e578e09826bbafa738d30621874f3df78963d44829906323ee9c735d"), looks := false }, kinds := [], alts := [], laidByText := true, laidKinds := [.data, .data], laidTests := true, laidLooks := .later }
def FnExactOrdersOfCardSaid : Prop := Claim7.holds Tryd.pinned (.plain (OpenSpec.ofChange fnExactOrdersOfSpec)) fnExactOrdersOfCard

/-- THE TIED CARD OF 'laws.FnOrdersAsTables'. -/
def fnOrdersAsTablesCard : Claim7 := { stood := { row := fnOrdersAsTablesRow, standIns := [], harness := (true, "292c62e6e578e09826bbafa738d30621874f3df78963d44829906323ee9c735d"), looks := false }, kinds := [], alts := [], laidByText := true, laidKinds := [.data, .data], laidTests := true, laidLooks := .later }
def FnOrdersAsTablesCardSaid : Prop := Claim7.holds Tryd.pinned (.plain (OpenSpec.ofChange fnOrdersAsTablesSpec)) fnOrdersAsTablesCard

/-- THE TIED CARD OF 'laws.FnRationalTables'. -/
def fnRationalTablesCard : Claim7 := { stood := { row := fnRationalTablesRow, standIns := [], harness := (true, "292c62e6e578e09826bbafa738d30621874f3df78963d44829906323ee9c735d"), looks := false }, kinds := [], alts := [], laidByText := true, laidKinds := [.data, .data], laidTests := true, laidLooks := .later }
def FnRationalTablesCardSaid : Prop := Claim7.holds Tryd.pinned (.plain (OpenSpec.ofChange fnRationalTablesSpec)) fnRationalTablesCard

/-- THE TIED CARD OF 'laws.FnExactParseTable'. -/
def fnExactParseTableCard : Claim7 := { stood := { row := fnExactParseTableRow, standIns := [], harness := (true, "292c62e6e578e09826bbafa738d30621874f3df78963d44829906323ee9c735d"), looks := false }, kinds := [], alts := [], laidByText := true, laidKinds := [.data, .pinned], laidTests := true, laidLooks := .later }
def FnExactParseTableCardSaid : Prop := Claim7.holds Tryd.pinned (.plain (OpenSpec.ofChange fnExactParseTableSpec)) fnExactParseTableCard

/-- THE TIED CARD OF 'laws.FnExactNearestOf'. -/
def fnExactNearestOfCard : Claim7 := { stood := { row := fnExactNearestOfRow, standIns := [], harness := (true, "292c62e6e578e09826bbafa738d30621874f3df78963d44829906323ee9c735d"), looks := false }, kinds := [], alts := [], laidByText := true, laidKinds := [.data, .data], laidTests := true, laidLooks := .later }
def FnExactNearestOfCardSaid : Prop := Claim7.holds Tryd.pinned (.plain (OpenSpec.ofChange fnExactNearestOfSpec)) fnExactNearestOfCard

/-- THE TIED CARD OF 'laws.FnNearestOrders'. -/
def fnNearestOrdersCard : Claim7 := { stood := { row := fnNearestOrdersRow, standIns := [], harness := (true, "292c62e6e578e09826bbafa738d30621874f3df78963d44829906323ee9c735d"), looks := false }, kinds := [], alts := [], laidByText := true, laidKinds := [.data, .data], laidTests := true, laidLooks := .later }
def FnNearestOrdersCardSaid : Prop := Claim7.holds Tryd.pinned (.plain (OpenSpec.ofChange fnNearestOrdersSpec)) fnNearestOrdersCard

/-- THE TIED CARD OF 'laws.FnTablesOfRelations'. -/
def fnTablesOfRelationsCard : Claim7 := { stood := { row := fnTablesOfRelationsRow, standIns := [], harness := (true, "292c62e6e578e09826bbafa738d30621874f3df78963d44829906323ee9c735d"), looks := false }, kinds := [], alts := [], laidByText := true, laidKinds := [.data, .data], laidTests := true, laidLooks := .later }
def FnTablesOfRelationsCardSaid : Prop := Claim7.holds Tryd.pinned (.plain (OpenSpec.ofChange fnTablesOfRelationsSpec)) fnTablesOfRelationsCard

/-- THE TIED CARD OF 'laws.FnTablesTurned'. -/
def fnTablesTurnedCard : Claim7 := { stood := { row := fnTablesTurnedRow, standIns := [], harness := (true, "292c62e6e578e09826bbafa738d30621874f3df78963d44829906323ee9c735d"), looks := false }, kinds := [], alts := [], laidByText := true, laidKinds := [.data, .pinned], laidTests := true, laidLooks := .later }
def FnTablesTurnedCardSaid : Prop := Claim7.holds Tryd.pinned (.plain (OpenSpec.ofChange fnTablesTurnedSpec)) fnTablesTurnedCard

/-- THE SECOND FORM's CARD OF 'laws.FnExactCountChoices'. -/
def fnExactCountChoicesUptoCard : Claim7 := { stood := { row := fnExactCountChoicesUptoRow, standIns := [], harness := (true, "292c62e6e578e09826bbafa738d30621874f3df78963d44829906323ee9c735d"), looks := false }, kinds := [], alts := [], laidByText := true, laidKinds := [.data, .data], laidTests := true, laidLooks := .later }
def FnExactCountChoicesUptoCardSaid : Prop := Claim7.holds Tryd.pinned (.plain (OpenSpec.upto fnExactCountChoicesSpec)) fnExactCountChoicesUptoCard

/-- THE SECOND FORM's CARD OF 'laws.FnExactOrdersOf'. -/
def fnExactOrdersOfUptoCard : Claim7 := { stood := { row := fnExactOrdersOfUptoRow, standIns := [], harness := (true, "292c62e6e578e09826bbafa738d30621874f3df78963d44829906323ee9c735d"), looks := false }, kinds := [], alts := [], laidByText := true, laidKinds := [.data, .data], laidTests := true, laidLooks := .later }
def FnExactOrdersOfUptoCardSaid : Prop := Claim7.holds Tryd.pinned (.plain (OpenSpec.upto fnExactOrdersOfSpec)) fnExactOrdersOfUptoCard

/-- THE SECOND FORM's CARD OF 'laws.FnOrdersAsTables'. -/
def fnOrdersAsTablesUptoCard : Claim7 := { stood := { row := fnOrdersAsTablesUptoRow, standIns := [], harness := (true, "292c62e6e578e09826bbafa738d30621874f3df78963d44829906323ee9c735d"), looks := false }, kinds := [], alts := [], laidByText := true, laidKinds := [.data, .data], laidTests := true, laidLooks := .later }
def FnOrdersAsTablesUptoCardSaid : Prop := Claim7.holds Tryd.pinned (.plain (OpenSpec.upto fnOrdersAsTablesSpec)) fnOrdersAsTablesUptoCard

/-- THE SECOND FORM's CARD OF 'laws.FnRationalTables'. -/
def fnRationalTablesUptoCard : Claim7 := { stood := { row := fnRationalTablesUptoRow, standIns := [], harness := (true, "292c62e6e578e09826bbafa738d30621874f3df78963d44829906323ee9c735d"), looks := false }, kinds := [], alts := [], laidByText := true, laidKinds := [.data, .data], laidTests := true, laidLooks := .later }
def FnRationalTablesUptoCardSaid : Prop := Claim7.holds Tryd.pinned (.plain (OpenSpec.upto fnRationalTablesSpec)) fnRationalTablesUptoCard

/-- THE SECOND FORM's CARD OF 'laws.FnExactParseTable'. -/
def fnExactParseTableUptoCard : Claim7 := { stood := { row := fnExactParseTableUptoRow, standIns := [], harness := (true, "292c62e6e578e09826bbafa738d30621874f3df78963d44829906323ee9c735d"), looks := false }, kinds := [], alts := [], laidByText := true, laidKinds := [.data, .pinned], laidTests := true, laidLooks := .later }
def FnExactParseTableUptoCardSaid : Prop := Claim7.holds Tryd.pinned (.plain (OpenSpec.upto fnExactParseTableSpec)) fnExactParseTableUptoCard

/-- THE SECOND FORM's CARD OF 'laws.FnExactNearestOf'. -/
def fnExactNearestOfUptoCard : Claim7 := { stood := { row := fnExactNearestOfUptoRow, standIns := [], harness := (true, "292c62e6e578e09826bbafa738d30621874f3df78963d44829906323ee9c735d"), looks := false }, kinds := [], alts := [], laidByText := true, laidKinds := [.data, .data], laidTests := true, laidLooks := .later }
def FnExactNearestOfUptoCardSaid : Prop := Claim7.holds Tryd.pinned (.plain (OpenSpec.upto fnExactNearestOfSpec)) fnExactNearestOfUptoCard

/-- THE SECOND FORM's CARD OF 'laws.FnNearestOrders'. -/
def fnNearestOrdersUptoCard : Claim7 := { stood := { row := fnNearestOrdersUptoRow, standIns := [], harness := (true, "292c62e6e578e09826bbafa738d30621874f3df78963d44829906323ee9c735d"), looks := false }, kinds := [], alts := [], laidByText := true, laidKinds := [.data, .data], laidTests := true, laidLooks := .later }
def FnNearestOrdersUptoCardSaid : Prop := Claim7.holds Tryd.pinned (.plain (OpenSpec.upto fnNearestOrdersSpec)) fnNearestOrdersUptoCard

/-- THE SECOND FORM's CARD OF 'laws.FnTablesOfRelations'. -/
def fnTablesOfRelationsUptoCard : Claim7 := { stood := { row := fnTablesOfRelationsUptoRow, standIns := [], harness := (true, "292c62e6e578e09826bbafa738d30621874f3df78963d44829906323ee9c735d"), looks := false }, kinds := [], alts := [], laidByText := true, laidKinds := [.data, .data], laidTests := true, laidLooks := .later }
def FnTablesOfRelationsUptoCardSaid : Prop := Claim7.holds Tryd.pinned (.plain (OpenSpec.upto fnTablesOfRelationsSpec)) fnTablesOfRelationsUptoCard

/-- THE SECOND FORM's CARD OF 'laws.FnTablesTurned'. -/
def fnTablesTurnedUptoCard : Claim7 := { stood := { row := fnTablesTurnedUptoRow, standIns := [], harness := (true, "292c62e6e578e09826bbafa738d30621874f3df78963d44829906323ee9c735d"), looks := false }, kinds := [], alts := [], laidByText := true, laidKinds := [.data, .pinned], laidTests := true, laidLooks := .later }
def FnTablesTurnedUptoCardSaid : Prop := Claim7.holds Tryd.pinned (.plain (OpenSpec.upto fnTablesTurnedSpec)) fnTablesTurnedUptoCard
end Rows
end Go.Proofs.YtgffgmfjoepjoaaDoor
