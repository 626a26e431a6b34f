/-
  DERIVED. GIVEN WITH THE SEED: THE CARDS: each row of YthpmmofleddpnaaDoorRows.lean that lists a variable, with what it lists TIED to the program's text (the seventh form; the later family's looks); each row that meets fmt, with fmt's text TOLD by the authors' own Lean function (tested against real Go, not proved from fmt's source: count such statements apart). THE CARD IS WHAT COUNTS. Prove the row's statement (the work); the ties are given (YthpmmofleddpnaaDoorTie.lean); close each card by the builder's one call (the guide's Derived/Test/ToyasCard.lean, 'card_holds'). Laid BY PROGRAM, IN A SANDBOX (cutbox-door.mjs). By AI agents, Wed Nov 11 2026. No macro, syntax, notation, axiom, sorry.
-/
import Derived.Test.YthpmmofleddpnaaDoorRows
import GoSem.ClaimSeven
namespace Go.Proofs.YthpmmofleddpnaaDoor
namespace Rows

/-- THE TIED CARD OF 'contangolaw12.TradeTexts'. -/
def tradeTextsCard : Claim7 := { stood := { row := tradeTextsRow, standIns := [], harness := (true, "3227cb7f7635475aed05c2799ff7ff6d825d33b9dd62e5704f100193090b6a9e"), looks := false }, kinds := [], alts := [], laidByText := true, laidKinds := [.data, .data, .pinned], laidTests := true, laidLooks := .later }
def TradeTextsCardSaid : Prop := Claim7.holds Tryd.pinned (.plain (OpenSpec.ofChange tradeTextsSpec)) tradeTextsCard

/-- THE TIED CARD OF 'contangolaw12.TradeLists'. -/
def tradeListsCard : Claim7 := { stood := { row := tradeListsRow, standIns := [], harness := (true, "3227cb7f7635475aed05c2799ff7ff6d825d33b9dd62e5704f100193090b6a9e"), looks := false }, kinds := [], alts := [], laidByText := true, laidKinds := [.data, .data, .pinned], laidTests := true, laidLooks := .later }
def TradeListsCardSaid : Prop := Claim7.holds Tryd.pinned (.plain (OpenSpec.ofChange tradeListsSpec)) tradeListsCard

/-- THE TIED CARD OF 'contangolaw12.TradeBack'. -/
def tradeBackCard : Claim7 := { stood := { row := tradeBackRow, standIns := [], harness := (true, "3227cb7f7635475aed05c2799ff7ff6d825d33b9dd62e5704f100193090b6a9e"), looks := false }, kinds := [], alts := [], laidByText := true, laidKinds := [.data, .data, .pinned], laidTests := true, laidLooks := .later }
def TradeBackCardSaid : Prop := Claim7.holds Tryd.pinned (.plain (OpenSpec.ofChange tradeBackSpec)) tradeBackCard

/-- THE TIED CARD OF 'contangolaw12.TradeCounts'. -/
def tradeCountsCard : Claim7 := { stood := { row := tradeCountsRow, standIns := [], harness := (true, "3227cb7f7635475aed05c2799ff7ff6d825d33b9dd62e5704f100193090b6a9e"), looks := false }, kinds := [], alts := [], laidByText := true, laidKinds := [.data, .data, .pinned], laidTests := true, laidLooks := .later }
def TradeCountsCardSaid : Prop := Claim7.holds Tryd.pinned (.plain (OpenSpec.ofChange tradeCountsSpec)) tradeCountsCard

/-- THE SECOND FORM's CARD OF 'contangolaw12.TradeTexts'. -/
def tradeTextsUptoCard : Claim7 := { stood := { row := tradeTextsUptoRow, standIns := [], harness := (true, "3227cb7f7635475aed05c2799ff7ff6d825d33b9dd62e5704f100193090b6a9e"), looks := false }, kinds := [], alts := [], laidByText := true, laidKinds := [.data, .data, .pinned], laidTests := true, laidLooks := .later }
def TradeTextsUptoCardSaid : Prop := Claim7.holds Tryd.pinned (.plain (OpenSpec.upto tradeTextsSpec)) tradeTextsUptoCard

/-- THE SECOND FORM's CARD OF 'contangolaw12.TradeLists'. -/
def tradeListsUptoCard : Claim7 := { stood := { row := tradeListsUptoRow, standIns := [], harness := (true, "3227cb7f7635475aed05c2799ff7ff6d825d33b9dd62e5704f100193090b6a9e"), looks := false }, kinds := [], alts := [], laidByText := true, laidKinds := [.data, .data, .pinned], laidTests := true, laidLooks := .later }
def TradeListsUptoCardSaid : Prop := Claim7.holds Tryd.pinned (.plain (OpenSpec.upto tradeListsSpec)) tradeListsUptoCard

/-- THE SECOND FORM's CARD OF 'contangolaw12.TradeBack'. -/
def tradeBackUptoCard : Claim7 := { stood := { row := tradeBackUptoRow, standIns := [], harness := (true, "3227cb7f7635475aed05c2799ff7ff6d825d33b9dd62e5704f100193090b6a9e"), looks := false }, kinds := [], alts := [], laidByText := true, laidKinds := [.data, .data, .pinned], laidTests := true, laidLooks := .later }
def TradeBackUptoCardSaid : Prop := Claim7.holds Tryd.pinned (.plain (OpenSpec.upto tradeBackSpec)) tradeBackUptoCard

/-- THE SECOND FORM's CARD OF 'contangolaw12.TradeCounts'. -/
def tradeCountsUptoCard : Claim7 := { stood := { row := tradeCountsUptoRow, standIns := [], harness := (true, "3227cb7f7635475aed05c2799ff7ff6d825d33b9dd62e5704f100193090b6a9e"), looks := false }, kinds := [], alts := [], laidByText := true, laidKinds := [.data, .data, .pinned], laidTests := true, laidLooks := .later }
def TradeCountsUptoCardSaid : Prop := Claim7.holds Tryd.pinned (.plain (OpenSpec.upto tradeCountsSpec)) tradeCountsUptoCard
end Rows
end Go.Proofs.YthpmmofleddpnaaDoor
