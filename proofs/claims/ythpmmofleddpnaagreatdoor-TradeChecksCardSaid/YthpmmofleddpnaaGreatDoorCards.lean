/-
  DERIVED. GIVEN WITH THE SEED: THE CARDS: each row of YthpmmofleddpnaaGreatDoorRows.lean that lists a variable, with what it lists TIED to the program's text (the seventh form; the later family's looks); each row that meets fmt, with fmt's text TOLD by the authors' own Lean function (tested against real Go, not proved from fmt's source: count such statements apart). THE CARD IS WHAT COUNTS. Prove the row's statement (the work); the ties are given (YthpmmofleddpnaaGreatDoorTie.lean); close each card by the builder's one call (the guide's Derived/Test/ToyasCard.lean, 'card_holds'). Laid BY PROGRAM, IN A SANDBOX (cutbox-door.mjs). By AI agents, Wed Nov 11 2026. No macro, syntax, notation, axiom, sorry.
-/
import Derived.Test.YthpmmofleddpnaaGreatDoorRows
import GoSem.ClaimSeven
namespace Go.Proofs.YthpmmofleddpnaaGreatDoor
namespace Rows

/-- THE TIED CARD OF 'contangolaw12.TradeChecks'. -/
def tradeChecksCard : Claim7 := { stood := { row := tradeChecksRow, standIns := [], harness := (true, "980fbc222ef2244dd0e1f7eac3ac43b09cf3c4e36e1cd1c67c8842fdabc98caa"), looks := true }, kinds := [], alts := [], laidByText := true, laidKinds := [.data, .data, .pinned], laidTests := true, laidLooks := .later }
def TradeChecksCardSaid : Prop := Claim7.holds Tryz.pinned (.plain (OpenSpec.ofChange tradeChecksSpec)) tradeChecksCard

/-- THE TIED CARD OF 'contangolaw12.TradeReads'. -/
def tradeReadsCard : Claim7 := { stood := { row := tradeReadsRow, standIns := [], harness := (true, "980fbc222ef2244dd0e1f7eac3ac43b09cf3c4e36e1cd1c67c8842fdabc98caa"), looks := true }, kinds := [], alts := [], laidByText := true, laidKinds := [.data, .data, .pinned], laidTests := true, laidLooks := .later }
def TradeReadsCardSaid : Prop := Claim7.holds Tryz.pinned (.plain (OpenSpec.ofChange tradeReadsSpec)) tradeReadsCard

/-- THE TIED CARD OF 'contangolaw53.EventLines'. -/
def eventLinesCard : Claim7 := { stood := { row := eventLinesRow, standIns := [], harness := (true, "980fbc222ef2244dd0e1f7eac3ac43b09cf3c4e36e1cd1c67c8842fdabc98caa"), looks := true }, kinds := [], alts := [], laidByText := true, laidKinds := [.data, .pinned], laidTests := true, laidLooks := .later }
def EventLinesCardSaid : Prop := Claim7.holds Tryz.pinned (.plain (OpenSpec.ofChange eventLinesSpec)) eventLinesCard

/-- THE TIED CARD OF 'contangolaw53.EventRights'. -/
def eventRightsCard : Claim7 := { stood := { row := eventRightsRow, standIns := [], harness := (true, "980fbc222ef2244dd0e1f7eac3ac43b09cf3c4e36e1cd1c67c8842fdabc98caa"), looks := true }, kinds := [], alts := [], laidByText := true, laidKinds := [.data, .pinned], laidTests := true, laidLooks := .later }
def EventRightsCardSaid : Prop := Claim7.holds Tryz.pinned (.plain (OpenSpec.ofChange eventRightsSpec)) eventRightsCard

/-- THE TIED CARD OF 'contangolaw53.EventBytes'. -/
def eventBytesCard : Claim7 := { stood := { row := eventBytesRow, standIns := [], harness := (true, "980fbc222ef2244dd0e1f7eac3ac43b09cf3c4e36e1cd1c67c8842fdabc98caa"), looks := true }, kinds := [], alts := [], laidByText := true, laidKinds := [.data, .pinned], laidTests := true, laidLooks := .later }
def EventBytesCardSaid : Prop := Claim7.holds Tryz.pinned (.plain (OpenSpec.ofChange eventBytesSpec)) eventBytesCard

/-- THE TIED CARD OF 'contangolaw53.EventBack'. -/
def eventBackCard : Claim7 := { stood := { row := eventBackRow, standIns := [], harness := (true, "980fbc222ef2244dd0e1f7eac3ac43b09cf3c4e36e1cd1c67c8842fdabc98caa"), looks := true }, kinds := [], alts := [], laidByText := true, laidKinds := [.data, .pinned], laidTests := true, laidLooks := .later }
def EventBackCardSaid : Prop := Claim7.holds Tryz.pinned (.plain (OpenSpec.ofChange eventBackSpec)) eventBackCard

/-- THE TIED CARD OF 'contangolaw53.EventOne'. -/
def eventOneCard : Claim7 := { stood := { row := eventOneRow, standIns := [], harness := (true, "980fbc222ef2244dd0e1f7eac3ac43b09cf3c4e36e1cd1c67c8842fdabc98caa"), looks := true }, kinds := [], alts := [], laidByText := true, laidKinds := [.data, .pinned], laidTests := true, laidLooks := .later }
def EventOneCardSaid : Prop := Claim7.holds Tryz.pinned (.plain (OpenSpec.ofChange eventOneSpec)) eventOneCard

/-- THE SECOND FORM's CARD OF 'contangolaw12.TradeChecks'. -/
def tradeChecksUptoCard : Claim7 := { stood := { row := tradeChecksUptoRow, standIns := [], harness := (true, "980fbc222ef2244dd0e1f7eac3ac43b09cf3c4e36e1cd1c67c8842fdabc98caa"), looks := true }, kinds := [], alts := [], laidByText := true, laidKinds := [.data, .data, .pinned], laidTests := true, laidLooks := .later }
def TradeChecksUptoCardSaid : Prop := Claim7.holds Tryz.pinned (.plain (OpenSpec.upto tradeChecksSpec)) tradeChecksUptoCard

/-- THE SECOND FORM's CARD OF 'contangolaw12.TradeReads'. -/
def tradeReadsUptoCard : Claim7 := { stood := { row := tradeReadsUptoRow, standIns := [], harness := (true, "980fbc222ef2244dd0e1f7eac3ac43b09cf3c4e36e1cd1c67c8842fdabc98caa"), looks := true }, kinds := [], alts := [], laidByText := true, laidKinds := [.data, .data, .pinned], laidTests := true, laidLooks := .later }
def TradeReadsUptoCardSaid : Prop := Claim7.holds Tryz.pinned (.plain (OpenSpec.upto tradeReadsSpec)) tradeReadsUptoCard

/-- THE SECOND FORM's CARD OF 'contangolaw53.EventLines'. -/
def eventLinesUptoCard : Claim7 := { stood := { row := eventLinesUptoRow, standIns := [], harness := (true, "980fbc222ef2244dd0e1f7eac3ac43b09cf3c4e36e1cd1c67c8842fdabc98caa"), looks := true }, kinds := [], alts := [], laidByText := true, laidKinds := [.data, .pinned], laidTests := true, laidLooks := .later }
def EventLinesUptoCardSaid : Prop := Claim7.holds Tryz.pinned (.plain (OpenSpec.upto eventLinesSpec)) eventLinesUptoCard

/-- THE SECOND FORM's CARD OF 'contangolaw53.EventRights'. -/
def eventRightsUptoCard : Claim7 := { stood := { row := eventRightsUptoRow, standIns := [], harness := (true, "980fbc222ef2244dd0e1f7eac3ac43b09cf3c4e36e1cd1c67c8842fdabc98caa"), looks := true }, kinds := [], alts := [], laidByText := true, laidKinds := [.data, .pinned], laidTests := true, laidLooks := .later }
def EventRightsUptoCardSaid : Prop := Claim7.holds Tryz.pinned (.plain (OpenSpec.upto eventRightsSpec)) eventRightsUptoCard

/-- THE SECOND FORM's CARD OF 'contangolaw53.EventBytes'. -/
def eventBytesUptoCard : Claim7 := { stood := { row := eventBytesUptoRow, standIns := [], harness := (true, "980fbc222ef2244dd0e1f7eac3ac43b09cf3c4e36e1cd1c67c8842fdabc98caa"), looks := true }, kinds := [], alts := [], laidByText := true, laidKinds := [.data, .pinned], laidTests := true, laidLooks := .later }
def EventBytesUptoCardSaid : Prop := Claim7.holds Tryz.pinned (.plain (OpenSpec.upto eventBytesSpec)) eventBytesUptoCard

/-- THE SECOND FORM's CARD OF 'contangolaw53.EventBack'. -/
def eventBackUptoCard : Claim7 := { stood := { row := eventBackUptoRow, standIns := [], harness := (true, "980fbc222ef2244dd0e1f7eac3ac43b09cf3c4e36e1cd1c67c8842fdabc98caa"), looks := true }, kinds := [], alts := [], laidByText := true, laidKinds := [.data, .pinned], laidTests := true, laidLooks := .later }
def EventBackUptoCardSaid : Prop := Claim7.holds Tryz.pinned (.plain (OpenSpec.upto eventBackSpec)) eventBackUptoCard

/-- THE SECOND FORM's CARD OF 'contangolaw53.EventOne'. -/
def eventOneUptoCard : Claim7 := { stood := { row := eventOneUptoRow, standIns := [], harness := (true, "980fbc222ef2244dd0e1f7eac3ac43b09cf3c4e36e1cd1c67c8842fdabc98caa"), looks := true }, kinds := [], alts := [], laidByText := true, laidKinds := [.data, .pinned], laidTests := true, laidLooks := .later }
def EventOneUptoCardSaid : Prop := Claim7.holds Tryz.pinned (.plain (OpenSpec.upto eventOneSpec)) eventOneUptoCard
end Rows
end Go.Proofs.YthpmmofleddpnaaGreatDoor
