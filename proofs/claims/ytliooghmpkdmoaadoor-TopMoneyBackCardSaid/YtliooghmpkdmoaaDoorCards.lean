/-
  DERIVED. GIVEN WITH THE SEED: THE CARDS: each row of YtliooghmpkdmoaaDoorRows.lean that lists a variable, with what it lists TIED to the program's text (the seventh form; the later family's looks); each row that meets fmt, with fmt's text TOLD by the authors' own Lean function (tested against real Go, not proved from fmt's source: count such statements apart). THE CARD IS WHAT COUNTS. Prove the row's statement (the work); the ties are given (YtliooghmpkdmoaaDoorTie.lean); close each card by the builder's one call (the guide's Derived/Test/ToyasCard.lean, 'card_holds'). Laid BY PROGRAM, IN A SANDBOX (cutbox-door.mjs). By AI agents, Wed Nov 11 2026. No macro, syntax, notation, axiom, sorry.
-/
import Derived.Test.YtliooghmpkdmoaaDoorRows
import GoSem.ClaimSeven
namespace Go.Proofs.YtliooghmpkdmoaaDoor
namespace Rows

/-- THE TIED CARD OF 'contangotop.TopMoneyBack'. -/
def topMoneyBackCard : Claim7 := { stood := { row := topMoneyBackRow, standIns := [], harness := (true, "2099198ce85c45d5ba0b386f05503956af396ebb8056c16a1e0a4ccd441f973f"), looks := false }, kinds := [], alts := [], laidByText := true, laidKinds := [.data, .data, .pinned], laidTests := true, laidLooks := .later }
def TopMoneyBackCardSaid : Prop := Claim7.holds Tryd.pinned (.plain (OpenSpec.ofChange topMoneyBackSpec)) topMoneyBackCard

/-- THE SECOND FORM's CARD OF 'contangotop.TopMoneyBack'. -/
def topMoneyBackUptoCard : Claim7 := { stood := { row := topMoneyBackUptoRow, standIns := [], harness := (true, "2099198ce85c45d5ba0b386f05503956af396ebb8056c16a1e0a4ccd441f973f"), looks := false }, kinds := [], alts := [], laidByText := true, laidKinds := [.data, .data, .pinned], laidTests := true, laidLooks := .later }
def TopMoneyBackUptoCardSaid : Prop := Claim7.holds Tryd.pinned (.plain (OpenSpec.upto topMoneyBackSpec)) topMoneyBackUptoCard
end Rows
end Go.Proofs.YtliooghmpkdmoaaDoor
