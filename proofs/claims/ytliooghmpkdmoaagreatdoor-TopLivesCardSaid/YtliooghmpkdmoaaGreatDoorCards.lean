/-
  DERIVED. GIVEN WITH THE SEED: THE CARDS: each row of YtliooghmpkdmoaaGreatDoorRows.lean that lists a variable, with what it lists TIED to the program's text (the seventh form; the later family's looks); each row that meets fmt, with fmt's text TOLD by the authors' own Lean function (tested against real Go, not proved from fmt's source: count such statements apart). THE CARD IS WHAT COUNTS. Prove the row's statement (the work); the ties are given (YtliooghmpkdmoaaGreatDoorTie.lean); close each card by the builder's one call (the guide's Derived/Test/ToyasCard.lean, 'card_holds'). Laid BY PROGRAM, IN A SANDBOX (cutbox-door.mjs). By AI agents, Wed Nov 11 2026. No macro, syntax, notation, axiom, sorry.
-/
import Derived.Test.YtliooghmpkdmoaaGreatDoorRows
import GoSem.ClaimSeven
namespace Go.Proofs.YtliooghmpkdmoaaGreatDoor
namespace Rows

/-- THE TIED CARD OF 'contangotop.TopLives'. -/
def topLivesCard : Claim7 := { stood := { row := topLivesRow, standIns := [], harness := (true, "e9bdb0304c59a07ac8b03f1bcc47074a81e0f4742f537791028511d807e79e62"), looks := false }, kinds := [], alts := [], laidByText := true, laidKinds := [.data, .data, .pinned], laidTests := true, laidLooks := .later }
def TopLivesCardSaid : Prop := Claim7.holds Tryz.pinned (.plain (OpenSpec.ofChange topLivesSpec)) topLivesCard

/-- THE TIED CARD OF 'contangotop.TopTradeLine'. -/
def topTradeLineCard : Claim7 := { stood := { row := topTradeLineRow, standIns := [], harness := (true, "e9bdb0304c59a07ac8b03f1bcc47074a81e0f4742f537791028511d807e79e62"), looks := false }, kinds := [], alts := [], laidByText := true, laidKinds := [.data, .data, .pinned], laidTests := true, laidLooks := .later }
def TopTradeLineCardSaid : Prop := Claim7.holds Tryz.pinned (.plain (OpenSpec.ofChange topTradeLineSpec)) topTradeLineCard

/-- THE SECOND FORM's CARD OF 'contangotop.TopLives'. -/
def topLivesUptoCard : Claim7 := { stood := { row := topLivesUptoRow, standIns := [], harness := (true, "e9bdb0304c59a07ac8b03f1bcc47074a81e0f4742f537791028511d807e79e62"), looks := false }, kinds := [], alts := [], laidByText := true, laidKinds := [.data, .data, .pinned], laidTests := true, laidLooks := .later }
def TopLivesUptoCardSaid : Prop := Claim7.holds Tryz.pinned (.plain (OpenSpec.upto topLivesSpec)) topLivesUptoCard

/-- THE SECOND FORM's CARD OF 'contangotop.TopTradeLine'. -/
def topTradeLineUptoCard : Claim7 := { stood := { row := topTradeLineUptoRow, standIns := [], harness := (true, "e9bdb0304c59a07ac8b03f1bcc47074a81e0f4742f537791028511d807e79e62"), looks := false }, kinds := [], alts := [], laidByText := true, laidKinds := [.data, .data, .pinned], laidTests := true, laidLooks := .later }
def TopTradeLineUptoCardSaid : Prop := Claim7.holds Tryz.pinned (.plain (OpenSpec.upto topTradeLineSpec)) topTradeLineUptoCard
end Rows
end Go.Proofs.YtliooghmpkdmoaaGreatDoor
