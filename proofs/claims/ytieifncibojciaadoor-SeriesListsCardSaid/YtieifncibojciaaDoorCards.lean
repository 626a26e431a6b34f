/-
  DERIVED. GIVEN WITH THE SEED: THE CARDS: each row of YtieifncibojciaaDoorRows.lean that lists a variable, with what it lists TIED to the program's text (the seventh form; the later family's looks); each row that meets fmt, with fmt's text TOLD by the authors' own Lean function (tested against real Go, not proved from fmt's source: count such statements apart). THE CARD IS WHAT COUNTS. Prove the row's statement (the work); the ties are given (YtieifncibojciaaDoorTie.lean); close each card by the builder's one call (the guide's Derived/Test/ToyasCard.lean, 'card_holds'). Laid BY PROGRAM, IN A SANDBOX (cutbox-door.mjs). By AI agents, Wed Nov 11 2026. No macro, syntax, notation, axiom, sorry.
-/
import Derived.Test.YtieifncibojciaaDoorRows
import GoSem.ClaimSeven
namespace Go.Proofs.YtieifncibojciaaDoor
namespace Rows

/-- THE TIED CARD OF 'contangolaw10.SeriesTexts'. -/
def seriesTextsCard : Claim7 := { stood := { row := seriesTextsRow, standIns := [], harness := (true, "965337d7566fe5aa27dfead1a8308f65040eb79cb3a5e2fe1c38d12b3622a83d"), looks := false }, kinds := [], alts := [], laidByText := true, laidKinds := [.data, .data, .pinned], laidTests := true, laidLooks := .later }
def SeriesTextsCardSaid : Prop := Claim7.holds Tryd.pinned (.plain (OpenSpec.ofChange seriesTextsSpec)) seriesTextsCard

/-- THE TIED CARD OF 'contangolaw10.SeriesBack'. -/
def seriesBackCard : Claim7 := { stood := { row := seriesBackRow, standIns := [], harness := (true, "965337d7566fe5aa27dfead1a8308f65040eb79cb3a5e2fe1c38d12b3622a83d"), looks := false }, kinds := [], alts := [], laidByText := true, laidKinds := [.data, .data, .pinned], laidTests := true, laidLooks := .later }
def SeriesBackCardSaid : Prop := Claim7.holds Tryd.pinned (.plain (OpenSpec.ofChange seriesBackSpec)) seriesBackCard

/-- THE TIED CARD OF 'contangolaw10.SeriesOrder'. -/
def seriesOrderCard : Claim7 := { stood := { row := seriesOrderRow, standIns := [], harness := (true, "965337d7566fe5aa27dfead1a8308f65040eb79cb3a5e2fe1c38d12b3622a83d"), looks := false }, kinds := [], alts := [], laidByText := true, laidKinds := [.data, .data, .pinned], laidTests := true, laidLooks := .later }
def SeriesOrderCardSaid : Prop := Claim7.holds Tryd.pinned (.plain (OpenSpec.ofChange seriesOrderSpec)) seriesOrderCard

/-- THE TIED CARD OF 'contangolaw10.SeriesOnce'. -/
def seriesOnceCard : Claim7 := { stood := { row := seriesOnceRow, standIns := [], harness := (true, "965337d7566fe5aa27dfead1a8308f65040eb79cb3a5e2fe1c38d12b3622a83d"), looks := false }, kinds := [], alts := [], laidByText := true, laidKinds := [.data, .data, .pinned], laidTests := true, laidLooks := .later }
def SeriesOnceCardSaid : Prop := Claim7.holds Tryd.pinned (.plain (OpenSpec.ofChange seriesOnceSpec)) seriesOnceCard

/-- THE TIED CARD OF 'contangolaw10.SeriesLists'. -/
def seriesListsCard : Claim7 := { stood := { row := seriesListsRow, standIns := [], harness := (true, "965337d7566fe5aa27dfead1a8308f65040eb79cb3a5e2fe1c38d12b3622a83d"), looks := false }, kinds := [], alts := [], laidByText := true, laidKinds := [.data, .data, .pinned], laidTests := true, laidLooks := .later }
def SeriesListsCardSaid : Prop := Claim7.holds Tryd.pinned (.plain (OpenSpec.ofChange seriesListsSpec)) seriesListsCard

/-- THE TIED CARD OF 'contangolaw09.ProductPrices'. -/
def productPricesCard : Claim7 := { stood := { row := productPricesRow, standIns := [], harness := (true, "965337d7566fe5aa27dfead1a8308f65040eb79cb3a5e2fe1c38d12b3622a83d"), looks := false }, kinds := [], alts := [], laidByText := true, laidKinds := [.data, .pinned], laidTests := true, laidLooks := .later }
def ProductPricesCardSaid : Prop := Claim7.holds Tryd.pinned (.plain (OpenSpec.ofChange productPricesSpec)) productPricesCard

/-- THE TIED CARD OF 'contangolaw09.ProductTexts'. -/
def productTextsCard : Claim7 := { stood := { row := productTextsRow, standIns := [], harness := (true, "965337d7566fe5aa27dfead1a8308f65040eb79cb3a5e2fe1c38d12b3622a83d"), looks := false }, kinds := [], alts := [], laidByText := true, laidKinds := [.data, .pinned], laidTests := true, laidLooks := .later }
def ProductTextsCardSaid : Prop := Claim7.holds Tryd.pinned (.plain (OpenSpec.ofChange productTextsSpec)) productTextsCard

/-- THE TIED CARD OF 'contangolaw09.ProductRounds'. -/
def productRoundsCard : Claim7 := { stood := { row := productRoundsRow, standIns := [], harness := (true, "965337d7566fe5aa27dfead1a8308f65040eb79cb3a5e2fe1c38d12b3622a83d"), looks := false }, kinds := [], alts := [], laidByText := true, laidKinds := [.data, .pinned], laidTests := true, laidLooks := .later }
def ProductRoundsCardSaid : Prop := Claim7.holds Tryd.pinned (.plain (OpenSpec.ofChange productRoundsSpec)) productRoundsCard

/-- THE TIED CARD OF 'contangolaw09.ProductBack'. -/
def productBackCard : Claim7 := { stood := { row := productBackRow, standIns := [], harness := (true, "965337d7566fe5aa27dfead1a8308f65040eb79cb3a5e2fe1c38d12b3622a83d"), looks := false }, kinds := [], alts := [], laidByText := true, laidKinds := [.data, .pinned], laidTests := true, laidLooks := .later }
def ProductBackCardSaid : Prop := Claim7.holds Tryd.pinned (.plain (OpenSpec.ofChange productBackSpec)) productBackCard

/-- THE TIED CARD OF 'contangolaw10.SeriesChecks'. -/
def seriesChecksCard : Claim7 := { stood := { row := seriesChecksRow, standIns := [], harness := (true, "965337d7566fe5aa27dfead1a8308f65040eb79cb3a5e2fe1c38d12b3622a83d"), looks := false }, kinds := [], alts := [], laidByText := true, laidKinds := [.data, .data, .pinned], laidTests := true, laidLooks := .later }
def SeriesChecksCardSaid : Prop := Claim7.holds Tryd.pinned (.plain (OpenSpec.ofChange seriesChecksSpec)) seriesChecksCard

/-- THE TIED CARD OF 'contangolaw09.ProductChecks'. -/
def productChecksCard : Claim7 := { stood := { row := productChecksRow, standIns := [], harness := (true, "965337d7566fe5aa27dfead1a8308f65040eb79cb3a5e2fe1c38d12b3622a83d"), looks := false }, kinds := [], alts := [], laidByText := true, laidKinds := [.data, .pinned], laidTests := true, laidLooks := .later }
def ProductChecksCardSaid : Prop := Claim7.holds Tryd.pinned (.plain (OpenSpec.ofChange productChecksSpec)) productChecksCard

/-- THE SECOND FORM's CARD OF 'contangolaw10.SeriesTexts'. -/
def seriesTextsUptoCard : Claim7 := { stood := { row := seriesTextsUptoRow, standIns := [], harness := (true, "965337d7566fe5aa27dfead1a8308f65040eb79cb3a5e2fe1c38d12b3622a83d"), looks := false }, kinds := [], alts := [], laidByText := true, laidKinds := [.data, .data, .pinned], laidTests := true, laidLooks := .later }
def SeriesTextsUptoCardSaid : Prop := Claim7.holds Tryd.pinned (.plain (OpenSpec.upto seriesTextsSpec)) seriesTextsUptoCard

/-- THE SECOND FORM's CARD OF 'contangolaw10.SeriesBack'. -/
def seriesBackUptoCard : Claim7 := { stood := { row := seriesBackUptoRow, standIns := [], harness := (true, "965337d7566fe5aa27dfead1a8308f65040eb79cb3a5e2fe1c38d12b3622a83d"), looks := false }, kinds := [], alts := [], laidByText := true, laidKinds := [.data, .data, .pinned], laidTests := true, laidLooks := .later }
def SeriesBackUptoCardSaid : Prop := Claim7.holds Tryd.pinned (.plain (OpenSpec.upto seriesBackSpec)) seriesBackUptoCard

/-- THE SECOND FORM's CARD OF 'contangolaw10.SeriesOrder'. -/
def seriesOrderUptoCard : Claim7 := { stood := { row := seriesOrderUptoRow, standIns := [], harness := (true, "965337d7566fe5aa27dfead1a8308f65040eb79cb3a5e2fe1c38d12b3622a83d"), looks := false }, kinds := [], alts := [], laidByText := true, laidKinds := [.data, .data, .pinned], laidTests := true, laidLooks := .later }
def SeriesOrderUptoCardSaid : Prop := Claim7.holds Tryd.pinned (.plain (OpenSpec.upto seriesOrderSpec)) seriesOrderUptoCard

/-- THE SECOND FORM's CARD OF 'contangolaw10.SeriesOnce'. -/
def seriesOnceUptoCard : Claim7 := { stood := { row := seriesOnceUptoRow, standIns := [], harness := (true, "965337d7566fe5aa27dfead1a8308f65040eb79cb3a5e2fe1c38d12b3622a83d"), looks := false }, kinds := [], alts := [], laidByText := true, laidKinds := [.data, .data, .pinned], laidTests := true, laidLooks := .later }
def SeriesOnceUptoCardSaid : Prop := Claim7.holds Tryd.pinned (.plain (OpenSpec.upto seriesOnceSpec)) seriesOnceUptoCard

/-- THE SECOND FORM's CARD OF 'contangolaw10.SeriesLists'. -/
def seriesListsUptoCard : Claim7 := { stood := { row := seriesListsUptoRow, standIns := [], harness := (true, "965337d7566fe5aa27dfead1a8308f65040eb79cb3a5e2fe1c38d12b3622a83d"), looks := false }, kinds := [], alts := [], laidByText := true, laidKinds := [.data, .data, .pinned], laidTests := true, laidLooks := .later }
def SeriesListsUptoCardSaid : Prop := Claim7.holds Tryd.pinned (.plain (OpenSpec.upto seriesListsSpec)) seriesListsUptoCard

/-- THE SECOND FORM's CARD OF 'contangolaw09.ProductPrices'. -/
def productPricesUptoCard : Claim7 := { stood := { row := productPricesUptoRow, standIns := [], harness := (true, "965337d7566fe5aa27dfead1a8308f65040eb79cb3a5e2fe1c38d12b3622a83d"), looks := false }, kinds := [], alts := [], laidByText := true, laidKinds := [.data, .pinned], laidTests := true, laidLooks := .later }
def ProductPricesUptoCardSaid : Prop := Claim7.holds Tryd.pinned (.plain (OpenSpec.upto productPricesSpec)) productPricesUptoCard

/-- THE SECOND FORM's CARD OF 'contangolaw09.ProductTexts'. -/
def productTextsUptoCard : Claim7 := { stood := { row := productTextsUptoRow, standIns := [], harness := (true, "965337d7566fe5aa27dfead1a8308f65040eb79cb3a5e2fe1c38d12b3622a83d"), looks := false }, kinds := [], alts := [], laidByText := true, laidKinds := [.data, .pinned], laidTests := true, laidLooks := .later }
def ProductTextsUptoCardSaid : Prop := Claim7.holds Tryd.pinned (.plain (OpenSpec.upto productTextsSpec)) productTextsUptoCard

/-- THE SECOND FORM's CARD OF 'contangolaw09.ProductRounds'. -/
def productRoundsUptoCard : Claim7 := { stood := { row := productRoundsUptoRow, standIns := [], harness := (true, "965337d7566fe5aa27dfead1a8308f65040eb79cb3a5e2fe1c38d12b3622a83d"), looks := false }, kinds := [], alts := [], laidByText := true, laidKinds := [.data, .pinned], laidTests := true, laidLooks := .later }
def ProductRoundsUptoCardSaid : Prop := Claim7.holds Tryd.pinned (.plain (OpenSpec.upto productRoundsSpec)) productRoundsUptoCard

/-- THE SECOND FORM's CARD OF 'contangolaw09.ProductBack'. -/
def productBackUptoCard : Claim7 := { stood := { row := productBackUptoRow, standIns := [], harness := (true, "965337d7566fe5aa27dfead1a8308f65040eb79cb3a5e2fe1c38d12b3622a83d"), looks := false }, kinds := [], alts := [], laidByText := true, laidKinds := [.data, .pinned], laidTests := true, laidLooks := .later }
def ProductBackUptoCardSaid : Prop := Claim7.holds Tryd.pinned (.plain (OpenSpec.upto productBackSpec)) productBackUptoCard

/-- THE SECOND FORM's CARD OF 'contangolaw10.SeriesChecks'. -/
def seriesChecksUptoCard : Claim7 := { stood := { row := seriesChecksUptoRow, standIns := [], harness := (true, "965337d7566fe5aa27dfead1a8308f65040eb79cb3a5e2fe1c38d12b3622a83d"), looks := false }, kinds := [], alts := [], laidByText := true, laidKinds := [.data, .data, .pinned], laidTests := true, laidLooks := .later }
def SeriesChecksUptoCardSaid : Prop := Claim7.holds Tryd.pinned (.plain (OpenSpec.upto seriesChecksSpec)) seriesChecksUptoCard

/-- THE SECOND FORM's CARD OF 'contangolaw09.ProductChecks'. -/
def productChecksUptoCard : Claim7 := { stood := { row := productChecksUptoRow, standIns := [], harness := (true, "965337d7566fe5aa27dfead1a8308f65040eb79cb3a5e2fe1c38d12b3622a83d"), looks := false }, kinds := [], alts := [], laidByText := true, laidKinds := [.data, .pinned], laidTests := true, laidLooks := .later }
def ProductChecksUptoCardSaid : Prop := Claim7.holds Tryd.pinned (.plain (OpenSpec.upto productChecksSpec)) productChecksUptoCard
end Rows
end Go.Proofs.YtieifncibojciaaDoor
