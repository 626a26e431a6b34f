/-
  No cell of these rows narrows 'for every input' (looked for: loops, veiled, ifaces, maps, wideKeys, modest, calm, conditions, laid).
  DERIVED. THE GIVEN ROWS OF THIS SEAT. 9 by the template 'for every input the law returns true; each argument reads behind the call as it read before'; 0 by the template 'total and deterministic' (their statements: YtocndpddghefhaaTotals.lean).
  GIVEN WITH THE SEED: the statements are not yours to turn. If you find one false, say at which input.
  Laid BY PROGRAM, IN A SANDBOX (cutbox-rows.mjs): the forced cells as the released guide's own fill.sh prints them over the translation b2accbbf6d0c6099… (all of the seat's roots in one cut). By AI agents, Wed Nov 11 2026. No macro, syntax, notation, axiom, sorry.
-/
import Derived.Test.YtocndpddghefhaaChecked
import GoSem.Claim
import GoSem.ClaimJoined
import GoSem.ClaimMapViews
import Derived.JoinedTies
import Derived.KernelRfl
namespace Go.Proofs.Ytocndpddghefhaa
/- THE CELL 'sum', in the pinned program and in every row, IS THE sha256 OF THE DUMP (.gsa) THAT YtocndpddghefhaaProg.lean LOADS. Nothing in Lean hashes anything: it is a label: what it is worth is what the hold of that sum in a sandbox is worth. -/
noncomputable def Try.pinned : Pinned := { name := "ytocndpddghefhaa", sum := "b2accbbf6d0c6099f62ae483cf6361004903fb2231565655811d7e30551f899b", checked := Try.checked }
namespace Rows
def none {H : Type} : Left H := { results := [], args := [] }

/-- 'contangolaw17.TapeAverages': WHATEVER THE INPUT: true; the input reads as it did. -/
def tapeAveragesSpec : ChangeSpec := { name := "tapeAverages", fn := fun _ => fun
  | [d1, d2, d3] => { results := [.lit (.bool true)], args := [d1, d2, d3] }
  | _ => none }
def tapeAveragesRow : OpenClaim := { program := "ytocndpddghefhaa", sum := "b2accbbf6d0c6099f62ae483cf6361004903fb2231565655811d7e30551f899b", func := "contango/contangolaw17.TapeAverages", spec := "tapeAverages", unfollowed := true, recurses := true, named := ["math/bits.divideError", "math/bits.overflowError"], apart := false }
def TapeAveragesSaid : Prop := tapeAveragesRow.holds Try.pinned (OpenSpec.ofChange tapeAveragesSpec)

/-- ITS FALSE NEIGHBOUR: 'it returns false'. Refute it at one input. -/
def tapeAveragesWrong : ChangeSpec := { name := "tapeAverages", fn := fun _ => fun
  | [d1, d2, d3] => { results := [.lit (.bool false)], args := [d1, d2, d3] }
  | _ => none }
def TapeAveragesWrongFalsely : Prop := tapeAveragesRow.holds Try.pinned (OpenSpec.ofChange tapeAveragesWrong)

/-- 'contangolaw17.TapeWithin': WHATEVER THE INPUT: true; the input reads as it did. -/
def tapeWithinSpec : ChangeSpec := { name := "tapeWithin", fn := fun _ => fun
  | [d] => { results := [.lit (.bool true)], args := [d] }
  | _ => none }
def tapeWithinRow : OpenClaim := { program := "ytocndpddghefhaa", sum := "b2accbbf6d0c6099f62ae483cf6361004903fb2231565655811d7e30551f899b", func := "contango/contangolaw17.TapeWithin", spec := "tapeWithin", unfollowed := true, recurses := true, named := ["math/bits.divideError", "math/bits.overflowError"], apart := false }
def TapeWithinSaid : Prop := tapeWithinRow.holds Try.pinned (OpenSpec.ofChange tapeWithinSpec)

/-- ITS FALSE NEIGHBOUR: 'it returns false'. Refute it at one input. -/
def tapeWithinWrong : ChangeSpec := { name := "tapeWithin", fn := fun _ => fun
  | [d] => { results := [.lit (.bool false)], args := [d] }
  | _ => none }
def TapeWithinWrongFalsely : Prop := tapeWithinRow.holds Try.pinned (OpenSpec.ofChange tapeWithinWrong)

/-- 'contangolaw18.MarkPrices': WHATEVER THE INPUT: true; the input reads as it did. -/
def markPricesSpec : ChangeSpec := { name := "markPrices", fn := fun _ => fun
  | [d1, d2] => { results := [.lit (.bool true)], args := [d1, d2] }
  | _ => none }
def markPricesRow : OpenClaim := { program := "ytocndpddghefhaa", sum := "b2accbbf6d0c6099f62ae483cf6361004903fb2231565655811d7e30551f899b", func := "contango/contangolaw18.MarkPrices", spec := "markPrices", unfollowed := true, recurses := true, named := ["math/bits.divideError", "math/bits.overflowError"], apart := false }
def MarkPricesSaid : Prop := markPricesRow.holds Try.pinned (OpenSpec.ofChange markPricesSpec)

/-- ITS FALSE NEIGHBOUR: 'it returns false'. Refute it at one input. -/
def markPricesWrong : ChangeSpec := { name := "markPrices", fn := fun _ => fun
  | [d1, d2] => { results := [.lit (.bool false)], args := [d1, d2] }
  | _ => none }
def MarkPricesWrongFalsely : Prop := markPricesRow.holds Try.pinned (OpenSpec.ofChange markPricesWrong)

/-- 'contangolaw18.MarkMids': WHATEVER THE INPUT: true; the input reads as it did. -/
def markMidsSpec : ChangeSpec := { name := "markMids", fn := fun _ => fun
  | [d1, d2, d3] => { results := [.lit (.bool true)], args := [d1, d2, d3] }
  | _ => none }
def markMidsRow : OpenClaim := { program := "ytocndpddghefhaa", sum := "b2accbbf6d0c6099f62ae483cf6361004903fb2231565655811d7e30551f899b", func := "contango/contangolaw18.MarkMids", spec := "markMids", unfollowed := true, recurses := true, named := ["math/bits.divideError", "math/bits.overflowError"], apart := false }
def MarkMidsSaid : Prop := markMidsRow.holds Try.pinned (OpenSpec.ofChange markMidsSpec)

/-- ITS FALSE NEIGHBOUR: 'it returns false'. Refute it at one input. -/
def markMidsWrong : ChangeSpec := { name := "markMids", fn := fun _ => fun
  | [d1, d2, d3] => { results := [.lit (.bool false)], args := [d1, d2, d3] }
  | _ => none }
def MarkMidsWrongFalsely : Prop := markMidsRow.holds Try.pinned (OpenSpec.ofChange markMidsWrong)

/-- 'contangolaw18.MarkHolds': WHATEVER THE INPUT: true; the input reads as it did. -/
def markHoldsSpec : ChangeSpec := { name := "markHolds", fn := fun _ => fun
  | [d1, d2] => { results := [.lit (.bool true)], args := [d1, d2] }
  | _ => none }
def markHoldsRow : OpenClaim := { program := "ytocndpddghefhaa", sum := "b2accbbf6d0c6099f62ae483cf6361004903fb2231565655811d7e30551f899b", func := "contango/contangolaw18.MarkHolds", spec := "markHolds", unfollowed := true, recurses := true, named := ["math/bits.divideError", "math/bits.overflowError"], apart := false }
def MarkHoldsSaid : Prop := markHoldsRow.holds Try.pinned (OpenSpec.ofChange markHoldsSpec)

/-- ITS FALSE NEIGHBOUR: 'it returns false'. Refute it at one input. -/
def markHoldsWrong : ChangeSpec := { name := "markHolds", fn := fun _ => fun
  | [d1, d2] => { results := [.lit (.bool false)], args := [d1, d2] }
  | _ => none }
def MarkHoldsWrongFalsely : Prop := markHoldsRow.holds Try.pinned (OpenSpec.ofChange markHoldsWrong)

/-- 'contangolaw17.TapeMerges': WHATEVER THE INPUT: true; the input reads as it did. -/
def tapeMergesSpec : ChangeSpec := { name := "tapeMerges", fn := fun _ => fun
  | [d1, d2] => { results := [.lit (.bool true)], args := [d1, d2] }
  | _ => none }
def tapeMergesRow : OpenClaim := { program := "ytocndpddghefhaa", sum := "b2accbbf6d0c6099f62ae483cf6361004903fb2231565655811d7e30551f899b", func := "contango/contangolaw17.TapeMerges", spec := "tapeMerges", unfollowed := true, recurses := true, named := ["math/bits.divideError", "math/bits.overflowError"], apart := false }
def TapeMergesSaid : Prop := tapeMergesRow.holds Try.pinned (OpenSpec.ofChange tapeMergesSpec)

/-- ITS FALSE NEIGHBOUR: 'it returns false'. Refute it at one input. -/
def tapeMergesWrong : ChangeSpec := { name := "tapeMerges", fn := fun _ => fun
  | [d1, d2] => { results := [.lit (.bool false)], args := [d1, d2] }
  | _ => none }
def TapeMergesWrongFalsely : Prop := tapeMergesRow.holds Try.pinned (OpenSpec.ofChange tapeMergesWrong)

/-- 'contangolaw17.TapeKeeps': WHATEVER THE INPUT: true; the input reads as it did. -/
def tapeKeepsSpec : ChangeSpec := { name := "tapeKeeps", fn := fun _ => fun
  | [d1, d2, d3] => { results := [.lit (.bool true)], args := [d1, d2, d3] }
  | _ => none }
def tapeKeepsRow : OpenClaim := { program := "ytocndpddghefhaa", sum := "b2accbbf6d0c6099f62ae483cf6361004903fb2231565655811d7e30551f899b", func := "contango/contangolaw17.TapeKeeps", spec := "tapeKeeps", unfollowed := true, recurses := true, named := ["math/bits.divideError", "math/bits.overflowError"], apart := false }
def TapeKeepsSaid : Prop := tapeKeepsRow.holds Try.pinned (OpenSpec.ofChange tapeKeepsSpec)

/-- ITS FALSE NEIGHBOUR: 'it returns false'. Refute it at one input. -/
def tapeKeepsWrong : ChangeSpec := { name := "tapeKeeps", fn := fun _ => fun
  | [d1, d2, d3] => { results := [.lit (.bool false)], args := [d1, d2, d3] }
  | _ => none }
def TapeKeepsWrongFalsely : Prop := tapeKeepsRow.holds Try.pinned (OpenSpec.ofChange tapeKeepsWrong)

/-- 'contangolaw18.MarkLists': WHATEVER THE INPUT: true; the input reads as it did. -/
def markListsSpec : ChangeSpec := { name := "markLists", fn := fun _ => fun
  | [d1, d2] => { results := [.lit (.bool true)], args := [d1, d2] }
  | _ => none }
def markListsRow : OpenClaim := { program := "ytocndpddghefhaa", sum := "b2accbbf6d0c6099f62ae483cf6361004903fb2231565655811d7e30551f899b", func := "contango/contangolaw18.MarkLists", spec := "markLists", inPlace := ["slices.overlaps[contango/api.Mark]"], unfollowed := true, recurses := true, named := ["math/bits.divideError", "math/bits.overflowError"], apart := false }
def MarkListsSaid : Prop := markListsRow.holds Try.pinned (OpenSpec.ofChange markListsSpec)

/-- ITS FALSE NEIGHBOUR: 'it returns false'. Refute it at one input. -/
def markListsWrong : ChangeSpec := { name := "markLists", fn := fun _ => fun
  | [d1, d2] => { results := [.lit (.bool false)], args := [d1, d2] }
  | _ => none }
def MarkListsWrongFalsely : Prop := markListsRow.holds Try.pinned (OpenSpec.ofChange markListsWrong)

/-- 'contangolaw18.MarkPuts': WHATEVER THE INPUT: true; the input reads as it did. -/
def markPutsSpec : ChangeSpec := { name := "markPuts", fn := fun _ => fun
  | [d1, d2, d3] => { results := [.lit (.bool true)], args := [d1, d2, d3] }
  | _ => none }
def markPutsRow : OpenClaim := { program := "ytocndpddghefhaa", sum := "b2accbbf6d0c6099f62ae483cf6361004903fb2231565655811d7e30551f899b", func := "contango/contangolaw18.MarkPuts", spec := "markPuts", inPlace := ["slices.overlaps[contango/api.Mark]"], unfollowed := true, recurses := true, named := ["math/bits.divideError", "math/bits.overflowError"], apart := false }
def MarkPutsSaid : Prop := markPutsRow.holds Try.pinned (OpenSpec.ofChange markPutsSpec)

/-- ITS FALSE NEIGHBOUR: 'it returns false'. Refute it at one input. -/
def markPutsWrong : ChangeSpec := { name := "markPuts", fn := fun _ => fun
  | [d1, d2, d3] => { results := [.lit (.bool false)], args := [d1, d2, d3] }
  | _ => none }
def MarkPutsWrongFalsely : Prop := markPutsRow.holds Try.pinned (OpenSpec.ofChange markPutsWrong)

/- THE SECOND FORM. 'bulk': how many values and letters a reading holds, each counted each time it is reached (what is shared counts as often as it is met; a slice's spare places count too). A statement '..UptoSaid' is the law's where the arguments, and the package variables that the reading takes, are together of bulk at most 1048576: NARROWER than '..Said'. Prove '..Said' where nothing that the law and all that it calls make is longer than what came in: it says more and counts as full. Else prove '..UptoSaid'. A law counts once. -/
mutual
def uptoBulk {H : Type} : DataW H → Nat
  | .lit (.string bytes) => bytes.length + 1
  | .lit _ => 1
  | .nil => 1
  | .ptr d => uptoBulk d + 1
  | .slice elems spare => uptoBulkAll elems + uptoBulkAll spare + 1
  | .agg parts => uptoBulkAll parts + 1
  | .iface _ d => uptoBulk d + 1
  | .map entries => uptoBulkEntries entries + 1
  | .held _ => 1
def uptoBulkAll {H : Type} : List (DataW H) → Nat
  | [] => 0
  | d :: r => uptoBulk d + uptoBulkAll r
def uptoBulkEntries {H : Type} : List (Lit × DataW H) → Nat
  | [] => 0
  | x :: r => uptoBulkEntry x + uptoBulkEntries r
def uptoBulkEntry {H : Type} : Lit × DataW H → Nat
  | (.string bytes, d) => bytes.length + uptoBulk d + 1
  | (_, d) => uptoBulk d + 1
 end
def uptoSmall : (H : Type) → List (DataW H) → Bool := fun _ ds => decide (uptoBulkAll ds ≤ 1048576)
def OpenSpec.upto (s : _root_.Go.ChangeSpec) : _root_.Go.OpenSpec := { _root_.Go.OpenSpec.ofChange s with cond := some uptoSmall }

/-- 'contangolaw17.TapeAverages', WHERE WHAT IT READS IS OF BULK AT MOST 1048576: true; the input reads as it did. -/
def tapeAveragesUptoRow : OpenClaim := { program := "ytocndpddghefhaa", sum := "b2accbbf6d0c6099f62ae483cf6361004903fb2231565655811d7e30551f899b", func := "contango/contangolaw17.TapeAverages", spec := "tapeAverages", unfollowed := true, recurses := true, named := ["math/bits.divideError", "math/bits.overflowError"], apart := false, narrowed := true }
def TapeAveragesUptoSaid : Prop := tapeAveragesUptoRow.holds Try.pinned (OpenSpec.upto tapeAveragesSpec)

/-- 'contangolaw17.TapeWithin', WHERE WHAT IT READS IS OF BULK AT MOST 1048576: true; the input reads as it did. -/
def tapeWithinUptoRow : OpenClaim := { program := "ytocndpddghefhaa", sum := "b2accbbf6d0c6099f62ae483cf6361004903fb2231565655811d7e30551f899b", func := "contango/contangolaw17.TapeWithin", spec := "tapeWithin", unfollowed := true, recurses := true, named := ["math/bits.divideError", "math/bits.overflowError"], apart := false, narrowed := true }
def TapeWithinUptoSaid : Prop := tapeWithinUptoRow.holds Try.pinned (OpenSpec.upto tapeWithinSpec)

/-- 'contangolaw18.MarkPrices', WHERE WHAT IT READS IS OF BULK AT MOST 1048576: true; the input reads as it did. -/
def markPricesUptoRow : OpenClaim := { program := "ytocndpddghefhaa", sum := "b2accbbf6d0c6099f62ae483cf6361004903fb2231565655811d7e30551f899b", func := "contango/contangolaw18.MarkPrices", spec := "markPrices", unfollowed := true, recurses := true, named := ["math/bits.divideError", "math/bits.overflowError"], apart := false, narrowed := true }
def MarkPricesUptoSaid : Prop := markPricesUptoRow.holds Try.pinned (OpenSpec.upto markPricesSpec)

/-- 'contangolaw18.MarkMids', WHERE WHAT IT READS IS OF BULK AT MOST 1048576: true; the input reads as it did. -/
def markMidsUptoRow : OpenClaim := { program := "ytocndpddghefhaa", sum := "b2accbbf6d0c6099f62ae483cf6361004903fb2231565655811d7e30551f899b", func := "contango/contangolaw18.MarkMids", spec := "markMids", unfollowed := true, recurses := true, named := ["math/bits.divideError", "math/bits.overflowError"], apart := false, narrowed := true }
def MarkMidsUptoSaid : Prop := markMidsUptoRow.holds Try.pinned (OpenSpec.upto markMidsSpec)

/-- 'contangolaw18.MarkHolds', WHERE WHAT IT READS IS OF BULK AT MOST 1048576: true; the input reads as it did. -/
def markHoldsUptoRow : OpenClaim := { program := "ytocndpddghefhaa", sum := "b2accbbf6d0c6099f62ae483cf6361004903fb2231565655811d7e30551f899b", func := "contango/contangolaw18.MarkHolds", spec := "markHolds", unfollowed := true, recurses := true, named := ["math/bits.divideError", "math/bits.overflowError"], apart := false, narrowed := true }
def MarkHoldsUptoSaid : Prop := markHoldsUptoRow.holds Try.pinned (OpenSpec.upto markHoldsSpec)

/-- 'contangolaw17.TapeMerges', WHERE WHAT IT READS IS OF BULK AT MOST 1048576: true; the input reads as it did. -/
def tapeMergesUptoRow : OpenClaim := { program := "ytocndpddghefhaa", sum := "b2accbbf6d0c6099f62ae483cf6361004903fb2231565655811d7e30551f899b", func := "contango/contangolaw17.TapeMerges", spec := "tapeMerges", unfollowed := true, recurses := true, named := ["math/bits.divideError", "math/bits.overflowError"], apart := false, narrowed := true }
def TapeMergesUptoSaid : Prop := tapeMergesUptoRow.holds Try.pinned (OpenSpec.upto tapeMergesSpec)

/-- 'contangolaw17.TapeKeeps', WHERE WHAT IT READS IS OF BULK AT MOST 1048576: true; the input reads as it did. -/
def tapeKeepsUptoRow : OpenClaim := { program := "ytocndpddghefhaa", sum := "b2accbbf6d0c6099f62ae483cf6361004903fb2231565655811d7e30551f899b", func := "contango/contangolaw17.TapeKeeps", spec := "tapeKeeps", unfollowed := true, recurses := true, named := ["math/bits.divideError", "math/bits.overflowError"], apart := false, narrowed := true }
def TapeKeepsUptoSaid : Prop := tapeKeepsUptoRow.holds Try.pinned (OpenSpec.upto tapeKeepsSpec)

/-- 'contangolaw18.MarkLists', WHERE WHAT IT READS IS OF BULK AT MOST 1048576: true; the input reads as it did. -/
def markListsUptoRow : OpenClaim := { program := "ytocndpddghefhaa", sum := "b2accbbf6d0c6099f62ae483cf6361004903fb2231565655811d7e30551f899b", func := "contango/contangolaw18.MarkLists", spec := "markLists", inPlace := ["slices.overlaps[contango/api.Mark]"], unfollowed := true, recurses := true, named := ["math/bits.divideError", "math/bits.overflowError"], apart := false, narrowed := true }
def MarkListsUptoSaid : Prop := markListsUptoRow.holds Try.pinned (OpenSpec.upto markListsSpec)

/-- 'contangolaw18.MarkPuts', WHERE WHAT IT READS IS OF BULK AT MOST 1048576: true; the input reads as it did. -/
def markPutsUptoRow : OpenClaim := { program := "ytocndpddghefhaa", sum := "b2accbbf6d0c6099f62ae483cf6361004903fb2231565655811d7e30551f899b", func := "contango/contangolaw18.MarkPuts", spec := "markPuts", inPlace := ["slices.overlaps[contango/api.Mark]"], unfollowed := true, recurses := true, named := ["math/bits.divideError", "math/bits.overflowError"], apart := false, narrowed := true }
def MarkPutsUptoSaid : Prop := markPutsUptoRow.holds Try.pinned (OpenSpec.upto markPutsSpec)

end Rows
end Go.Proofs.Ytocndpddghefhaa
