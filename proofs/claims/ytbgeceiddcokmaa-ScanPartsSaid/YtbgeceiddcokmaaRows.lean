/-
  No cell of these rows narrows 'for every input' (looked for: loops, veiled, ifaces, maps, wideKeys, modest, calm, conditions, laid).
  DERIVED. THE GIVEN ROWS OF THIS SEAT. 11 by the template 'for every input the law returns true; each argument reads behind the call as it read before'; 0 by the template 'total and deterministic' (their statements: YtbgeceiddcokmaaTotals.lean).
  GIVEN WITH THE SEED: the statements are not yours to turn. If you find one false, say at which input.
  Laid BY PROGRAM, IN A SANDBOX (cutbox-rows.mjs): the forced cells as the released guide's own fill.sh prints them over the translation 5e1f25e9d32fda08… (all of the seat's roots in one cut). By AI agents, Wed Nov 11 2026. No macro, syntax, notation, axiom, sorry.
-/
import Derived.Test.YtbgeceiddcokmaaChecked
import GoSem.Claim
import GoSem.ClaimJoined
import GoSem.ClaimMapViews
import Derived.JoinedTies
import Derived.KernelRfl
namespace Go.Proofs.Ytbgeceiddcokmaa
/- THE CELL 'sum', in the pinned program and in every row, IS THE sha256 OF THE DUMP (.gsa) THAT YtbgeceiddcokmaaProg.lean LOADS. Nothing in Lean hashes anything: it is a label: what it is worth is what the hold of that sum in a sandbox is worth. -/
noncomputable def Try.pinned : Pinned := { name := "ytbgeceiddcokmaa", sum := "5e1f25e9d32fda08ddcabc2ec7f8a62c559f40a87c79888bb9c9e060c9e42368", checked := Try.checked }
namespace Rows
def none {H : Type} : Left H := { results := [], args := [] }

/-- 'contangolaw43.HedgePlans': WHATEVER THE INPUT: true; the input reads as it did. -/
def hedgePlansSpec : ChangeSpec := { name := "hedgePlans", fn := fun _ => fun
  | [d1, d2, d3] => { results := [.lit (.bool true)], args := [d1, d2, d3] }
  | _ => none }
def hedgePlansRow : OpenClaim := { program := "ytbgeceiddcokmaa", sum := "5e1f25e9d32fda08ddcabc2ec7f8a62c559f40a87c79888bb9c9e060c9e42368", func := "contango/contangolaw43.HedgePlans", spec := "hedgePlans", unfollowed := true, recurses := true, plainKeys := false, apart := false }
def HedgePlansSaid : Prop := hedgePlansRow.holds Try.pinned (OpenSpec.ofChange hedgePlansSpec)

/-- ITS FALSE NEIGHBOUR: 'it returns false'. Refute it at one input. -/
def hedgePlansWrong : ChangeSpec := { name := "hedgePlans", fn := fun _ => fun
  | [d1, d2, d3] => { results := [.lit (.bool false)], args := [d1, d2, d3] }
  | _ => none }
def HedgePlansWrongFalsely : Prop := hedgePlansRow.holds Try.pinned (OpenSpec.ofChange hedgePlansWrong)

/-- 'contangolaw43.HedgeBest': WHATEVER THE INPUT: true; the input reads as it did. -/
def hedgeBestSpec : ChangeSpec := { name := "hedgeBest", fn := fun _ => fun
  | [d1, d2, d3] => { results := [.lit (.bool true)], args := [d1, d2, d3] }
  | _ => none }
def hedgeBestRow : OpenClaim := { program := "ytbgeceiddcokmaa", sum := "5e1f25e9d32fda08ddcabc2ec7f8a62c559f40a87c79888bb9c9e060c9e42368", func := "contango/contangolaw43.HedgeBest", spec := "hedgeBest", unfollowed := true, recurses := true, plainKeys := false, apart := false }
def HedgeBestSaid : Prop := hedgeBestRow.holds Try.pinned (OpenSpec.ofChange hedgeBestSpec)

/-- ITS FALSE NEIGHBOUR: 'it returns false'. Refute it at one input. -/
def hedgeBestWrong : ChangeSpec := { name := "hedgeBest", fn := fun _ => fun
  | [d1, d2, d3] => { results := [.lit (.bool false)], args := [d1, d2, d3] }
  | _ => none }
def HedgeBestWrongFalsely : Prop := hedgeBestRow.holds Try.pinned (OpenSpec.ofChange hedgeBestWrong)

/-- 'contangolaw43.HedgeLeast': WHATEVER THE INPUT: true; the input reads as it did. -/
def hedgeLeastSpec : ChangeSpec := { name := "hedgeLeast", fn := fun _ => fun
  | [d1, d2] => { results := [.lit (.bool true)], args := [d1, d2] }
  | _ => none }
def hedgeLeastRow : OpenClaim := { program := "ytbgeceiddcokmaa", sum := "5e1f25e9d32fda08ddcabc2ec7f8a62c559f40a87c79888bb9c9e060c9e42368", func := "contango/contangolaw43.HedgeLeast", spec := "hedgeLeast", unfollowed := true, recurses := true, plainKeys := false, apart := false }
def HedgeLeastSaid : Prop := hedgeLeastRow.holds Try.pinned (OpenSpec.ofChange hedgeLeastSpec)

/-- ITS FALSE NEIGHBOUR: 'it returns false'. Refute it at one input. -/
def hedgeLeastWrong : ChangeSpec := { name := "hedgeLeast", fn := fun _ => fun
  | [d1, d2] => { results := [.lit (.bool false)], args := [d1, d2] }
  | _ => none }
def HedgeLeastWrongFalsely : Prop := hedgeLeastRow.holds Try.pinned (OpenSpec.ofChange hedgeLeastWrong)

/-- 'contangolaw43.HedgeNearer': WHATEVER THE INPUT: true; the input reads as it did. -/
def hedgeNearerSpec : ChangeSpec := { name := "hedgeNearer", fn := fun _ => fun
  | [d1, d2, d3] => { results := [.lit (.bool true)], args := [d1, d2, d3] }
  | _ => none }
def hedgeNearerRow : OpenClaim := { program := "ytbgeceiddcokmaa", sum := "5e1f25e9d32fda08ddcabc2ec7f8a62c559f40a87c79888bb9c9e060c9e42368", func := "contango/contangolaw43.HedgeNearer", spec := "hedgeNearer", unfollowed := true, recurses := true, plainKeys := false, apart := false }
def HedgeNearerSaid : Prop := hedgeNearerRow.holds Try.pinned (OpenSpec.ofChange hedgeNearerSpec)

/-- ITS FALSE NEIGHBOUR: 'it returns false'. Refute it at one input. -/
def hedgeNearerWrong : ChangeSpec := { name := "hedgeNearer", fn := fun _ => fun
  | [d1, d2, d3] => { results := [.lit (.bool false)], args := [d1, d2, d3] }
  | _ => none }
def HedgeNearerWrongFalsely : Prop := hedgeNearerRow.holds Try.pinned (OpenSpec.ofChange hedgeNearerWrong)

/-- 'contangolaw23.ScanLosses': WHATEVER THE INPUT: true; the input reads as it did. -/
def scanLossesSpec : ChangeSpec := { name := "scanLosses", fn := fun _ => fun
  | [d1, d2] => { results := [.lit (.bool true)], args := [d1, d2] }
  | _ => none }
def scanLossesRow : OpenClaim := { program := "ytbgeceiddcokmaa", sum := "5e1f25e9d32fda08ddcabc2ec7f8a62c559f40a87c79888bb9c9e060c9e42368", func := "contango/contangolaw23.ScanLosses", spec := "scanLosses", plainKeys := false, apart := false }
def ScanLossesSaid : Prop := scanLossesRow.holds Try.pinned (OpenSpec.ofChange scanLossesSpec)

/-- ITS FALSE NEIGHBOUR: 'it returns false'. Refute it at one input. -/
def scanLossesWrong : ChangeSpec := { name := "scanLosses", fn := fun _ => fun
  | [d1, d2] => { results := [.lit (.bool false)], args := [d1, d2] }
  | _ => none }
def ScanLossesWrongFalsely : Prop := scanLossesRow.holds Try.pinned (OpenSpec.ofChange scanLossesWrong)

/-- 'contangolaw23.ScanTurned': WHATEVER THE INPUT: true; the input reads as it did. -/
def scanTurnedSpec : ChangeSpec := { name := "scanTurned", fn := fun _ => fun
  | [d1, d2, d3] => { results := [.lit (.bool true)], args := [d1, d2, d3] }
  | _ => none }
def scanTurnedRow : OpenClaim := { program := "ytbgeceiddcokmaa", sum := "5e1f25e9d32fda08ddcabc2ec7f8a62c559f40a87c79888bb9c9e060c9e42368", func := "contango/contangolaw23.ScanTurned", spec := "scanTurned", plainKeys := false, apart := false }
def ScanTurnedSaid : Prop := scanTurnedRow.holds Try.pinned (OpenSpec.ofChange scanTurnedSpec)

/-- ITS FALSE NEIGHBOUR: 'it returns false'. Refute it at one input. -/
def scanTurnedWrong : ChangeSpec := { name := "scanTurned", fn := fun _ => fun
  | [d1, d2, d3] => { results := [.lit (.bool false)], args := [d1, d2, d3] }
  | _ => none }
def ScanTurnedWrongFalsely : Prop := scanTurnedRow.holds Try.pinned (OpenSpec.ofChange scanTurnedWrong)

/-- 'contangolaw23.ScanProducts': WHATEVER THE INPUT: true; the input reads as it did. -/
def scanProductsSpec : ChangeSpec := { name := "scanProducts", fn := fun _ => fun
  | [d] => { results := [.lit (.bool true)], args := [d] }
  | _ => none }
def scanProductsRow : OpenClaim := { program := "ytbgeceiddcokmaa", sum := "5e1f25e9d32fda08ddcabc2ec7f8a62c559f40a87c79888bb9c9e060c9e42368", func := "contango/contangolaw23.ScanProducts", spec := "scanProducts", plainKeys := false, apart := false }
def ScanProductsSaid : Prop := scanProductsRow.holds Try.pinned (OpenSpec.ofChange scanProductsSpec)

/-- ITS FALSE NEIGHBOUR: 'it returns false'. Refute it at one input. -/
def scanProductsWrong : ChangeSpec := { name := "scanProducts", fn := fun _ => fun
  | [d] => { results := [.lit (.bool false)], args := [d] }
  | _ => none }
def ScanProductsWrongFalsely : Prop := scanProductsRow.holds Try.pinned (OpenSpec.ofChange scanProductsWrong)

/-- 'contangolaw43.HedgeDeltas': WHATEVER THE INPUT: true; the input reads as it did. -/
def hedgeDeltasSpec : ChangeSpec := { name := "hedgeDeltas", fn := fun _ => fun
  | [d1, d2] => { results := [.lit (.bool true)], args := [d1, d2] }
  | _ => none }
def hedgeDeltasRow : OpenClaim := { program := "ytbgeceiddcokmaa", sum := "5e1f25e9d32fda08ddcabc2ec7f8a62c559f40a87c79888bb9c9e060c9e42368", func := "contango/contangolaw43.HedgeDeltas", spec := "hedgeDeltas", unfollowed := true, recurses := true, plainKeys := false, apart := false }
def HedgeDeltasSaid : Prop := hedgeDeltasRow.holds Try.pinned (OpenSpec.ofChange hedgeDeltasSpec)

/-- ITS FALSE NEIGHBOUR: 'it returns false'. Refute it at one input. -/
def hedgeDeltasWrong : ChangeSpec := { name := "hedgeDeltas", fn := fun _ => fun
  | [d1, d2] => { results := [.lit (.bool false)], args := [d1, d2] }
  | _ => none }
def HedgeDeltasWrongFalsely : Prop := hedgeDeltasRow.holds Try.pinned (OpenSpec.ofChange hedgeDeltasWrong)

/-- 'contangolaw23.ScanDeltas': WHATEVER THE INPUT: true; the input reads as it did. -/
def scanDeltasSpec : ChangeSpec := { name := "scanDeltas", fn := fun _ => fun
  | [d1, d2] => { results := [.lit (.bool true)], args := [d1, d2] }
  | _ => none }
def scanDeltasRow : OpenClaim := { program := "ytbgeceiddcokmaa", sum := "5e1f25e9d32fda08ddcabc2ec7f8a62c559f40a87c79888bb9c9e060c9e42368", func := "contango/contangolaw23.ScanDeltas", spec := "scanDeltas", inPlace := ["slices.overlaps[int]"], plainKeys := false, apart := false }
def ScanDeltasSaid : Prop := scanDeltasRow.holds Try.pinned (OpenSpec.ofChange scanDeltasSpec)

/-- ITS FALSE NEIGHBOUR: 'it returns false'. Refute it at one input. -/
def scanDeltasWrong : ChangeSpec := { name := "scanDeltas", fn := fun _ => fun
  | [d1, d2] => { results := [.lit (.bool false)], args := [d1, d2] }
  | _ => none }
def ScanDeltasWrongFalsely : Prop := scanDeltasRow.holds Try.pinned (OpenSpec.ofChange scanDeltasWrong)

/-- 'contangolaw23.ScanParts': WHATEVER THE INPUT: true; the input reads as it did. -/
def scanPartsSpec : ChangeSpec := { name := "scanParts", fn := fun _ => fun
  | [d1, d2] => { results := [.lit (.bool true)], args := [d1, d2] }
  | _ => none }
def scanPartsRow : OpenClaim := { program := "ytbgeceiddcokmaa", sum := "5e1f25e9d32fda08ddcabc2ec7f8a62c559f40a87c79888bb9c9e060c9e42368", func := "contango/contangolaw23.ScanParts", spec := "scanParts", inPlace := ["slices.overlaps[int]"], plainKeys := false, apart := false }
def ScanPartsSaid : Prop := scanPartsRow.holds Try.pinned (OpenSpec.ofChange scanPartsSpec)

/-- ITS FALSE NEIGHBOUR: 'it returns false'. Refute it at one input. -/
def scanPartsWrong : ChangeSpec := { name := "scanParts", fn := fun _ => fun
  | [d1, d2] => { results := [.lit (.bool false)], args := [d1, d2] }
  | _ => none }
def ScanPartsWrongFalsely : Prop := scanPartsRow.holds Try.pinned (OpenSpec.ofChange scanPartsWrong)

/-- 'contangotop.TopHedged': WHATEVER THE INPUT: true; the input reads as it did. -/
def topHedgedSpec : ChangeSpec := { name := "topHedged", fn := fun _ => fun
  | [d1, d2, d3] => { results := [.lit (.bool true)], args := [d1, d2, d3] }
  | _ => none }
def topHedgedRow : OpenClaim := { program := "ytbgeceiddcokmaa", sum := "5e1f25e9d32fda08ddcabc2ec7f8a62c559f40a87c79888bb9c9e060c9e42368", func := "contango/contangotop.TopHedged", spec := "topHedged", unfollowed := true, recurses := true, plainKeys := false, apart := false }
def TopHedgedSaid : Prop := topHedgedRow.holds Try.pinned (OpenSpec.ofChange topHedgedSpec)

/-- ITS FALSE NEIGHBOUR: 'it returns false'. Refute it at one input. -/
def topHedgedWrong : ChangeSpec := { name := "topHedged", fn := fun _ => fun
  | [d1, d2, d3] => { results := [.lit (.bool false)], args := [d1, d2, d3] }
  | _ => none }
def TopHedgedWrongFalsely : Prop := topHedgedRow.holds Try.pinned (OpenSpec.ofChange topHedgedWrong)

/- THE SECOND FORM. 'bulk': how many values and letters a reading holds, each counted each time it is reached (what is shared counts as often as it is met; a slice's spare places count too). A statement '..UptoSaid' is the law's where the arguments, and the package variables that the reading takes, are together of bulk at most 1048576: NARROWER than '..Said'. Prove '..Said' where nothing that the law and all that it calls make is longer than what came in: it says more and counts as full. Else prove '..UptoSaid'. A law counts once. -/
mutual
def uptoBulk {H : Type} : DataW H → Nat
  | .lit (.string bytes) => bytes.length + 1
  | .lit _ => 1
  | .nil => 1
  | .ptr d => uptoBulk d + 1
  | .slice elems spare => uptoBulkAll elems + uptoBulkAll spare + 1
  | .agg parts => uptoBulkAll parts + 1
  | .iface _ d => uptoBulk d + 1
  | .map entries => uptoBulkEntries entries + 1
  | .held _ => 1
def uptoBulkAll {H : Type} : List (DataW H) → Nat
  | [] => 0
  | d :: r => uptoBulk d + uptoBulkAll r
def uptoBulkEntries {H : Type} : List (Lit × DataW H) → Nat
  | [] => 0
  | x :: r => uptoBulkEntry x + uptoBulkEntries r
def uptoBulkEntry {H : Type} : Lit × DataW H → Nat
  | (.string bytes, d) => bytes.length + uptoBulk d + 1
  | (_, d) => uptoBulk d + 1
 end
def uptoSmall : (H : Type) → List (DataW H) → Bool := fun _ ds => decide (uptoBulkAll ds ≤ 1048576)
def OpenSpec.upto (s : _root_.Go.ChangeSpec) : _root_.Go.OpenSpec := { _root_.Go.OpenSpec.ofChange s with cond := some uptoSmall }

/-- 'contangolaw43.HedgePlans', WHERE WHAT IT READS IS OF BULK AT MOST 1048576: true; the input reads as it did. -/
def hedgePlansUptoRow : OpenClaim := { program := "ytbgeceiddcokmaa", sum := "5e1f25e9d32fda08ddcabc2ec7f8a62c559f40a87c79888bb9c9e060c9e42368", func := "contango/contangolaw43.HedgePlans", spec := "hedgePlans", unfollowed := true, recurses := true, plainKeys := false, apart := false, narrowed := true }
def HedgePlansUptoSaid : Prop := hedgePlansUptoRow.holds Try.pinned (OpenSpec.upto hedgePlansSpec)

/-- 'contangolaw43.HedgeBest', WHERE WHAT IT READS IS OF BULK AT MOST 1048576: true; the input reads as it did. -/
def hedgeBestUptoRow : OpenClaim := { program := "ytbgeceiddcokmaa", sum := "5e1f25e9d32fda08ddcabc2ec7f8a62c559f40a87c79888bb9c9e060c9e42368", func := "contango/contangolaw43.HedgeBest", spec := "hedgeBest", unfollowed := true, recurses := true, plainKeys := false, apart := false, narrowed := true }
def HedgeBestUptoSaid : Prop := hedgeBestUptoRow.holds Try.pinned (OpenSpec.upto hedgeBestSpec)

/-- 'contangolaw43.HedgeLeast', WHERE WHAT IT READS IS OF BULK AT MOST 1048576: true; the input reads as it did. -/
def hedgeLeastUptoRow : OpenClaim := { program := "ytbgeceiddcokmaa", sum := "5e1f25e9d32fda08ddcabc2ec7f8a62c559f40a87c79888bb9c9e060c9e42368", func := "contango/contangolaw43.HedgeLeast", spec := "hedgeLeast", unfollowed := true, recurses := true, plainKeys := false, apart := false, narrowed := true }
def HedgeLeastUptoSaid : Prop := hedgeLeastUptoRow.holds Try.pinned (OpenSpec.upto hedgeLeastSpec)

/-- 'contangolaw43.HedgeNearer', WHERE WHAT IT READS IS OF BULK AT MOST 1048576: true; the input reads as it did. -/
def hedgeNearerUptoRow : OpenClaim := { program := "ytbgeceiddcokmaa", sum := "5e1f25e9d32fda08ddcabc2ec7f8a62c559f40a87c79888bb9c9e060c9e42368", func := "contango/contangolaw43.HedgeNearer", spec := "hedgeNearer", unfollowed := true, recurses := true, plainKeys := false, apart := false, narrowed := true }
def HedgeNearerUptoSaid : Prop := hedgeNearerUptoRow.holds Try.pinned (OpenSpec.upto hedgeNearerSpec)

/-- 'contangolaw23.ScanLosses', WHERE WHAT IT READS IS OF BULK AT MOST 1048576: true; the input reads as it did. -/
def scanLossesUptoRow : OpenClaim := { program := "ytbgeceiddcokmaa", sum := "5e1f25e9d32fda08ddcabc2ec7f8a62c559f40a87c79888bb9c9e060c9e42368", func := "contango/contangolaw23.ScanLosses", spec := "scanLosses", plainKeys := false, apart := false, narrowed := true }
def ScanLossesUptoSaid : Prop := scanLossesUptoRow.holds Try.pinned (OpenSpec.upto scanLossesSpec)

/-- 'contangolaw23.ScanTurned', WHERE WHAT IT READS IS OF BULK AT MOST 1048576: true; the input reads as it did. -/
def scanTurnedUptoRow : OpenClaim := { program := "ytbgeceiddcokmaa", sum := "5e1f25e9d32fda08ddcabc2ec7f8a62c559f40a87c79888bb9c9e060c9e42368", func := "contango/contangolaw23.ScanTurned", spec := "scanTurned", plainKeys := false, apart := false, narrowed := true }
def ScanTurnedUptoSaid : Prop := scanTurnedUptoRow.holds Try.pinned (OpenSpec.upto scanTurnedSpec)

/-- 'contangolaw23.ScanProducts', WHERE WHAT IT READS IS OF BULK AT MOST 1048576: true; the input reads as it did. -/
def scanProductsUptoRow : OpenClaim := { program := "ytbgeceiddcokmaa", sum := "5e1f25e9d32fda08ddcabc2ec7f8a62c559f40a87c79888bb9c9e060c9e42368", func := "contango/contangolaw23.ScanProducts", spec := "scanProducts", plainKeys := false, apart := false, narrowed := true }
def ScanProductsUptoSaid : Prop := scanProductsUptoRow.holds Try.pinned (OpenSpec.upto scanProductsSpec)

/-- 'contangolaw43.HedgeDeltas', WHERE WHAT IT READS IS OF BULK AT MOST 1048576: true; the input reads as it did. -/
def hedgeDeltasUptoRow : OpenClaim := { program := "ytbgeceiddcokmaa", sum := "5e1f25e9d32fda08ddcabc2ec7f8a62c559f40a87c79888bb9c9e060c9e42368", func := "contango/contangolaw43.HedgeDeltas", spec := "hedgeDeltas", unfollowed := true, recurses := true, plainKeys := false, apart := false, narrowed := true }
def HedgeDeltasUptoSaid : Prop := hedgeDeltasUptoRow.holds Try.pinned (OpenSpec.upto hedgeDeltasSpec)

/-- 'contangolaw23.ScanDeltas', WHERE WHAT IT READS IS OF BULK AT MOST 1048576: true; the input reads as it did. -/
def scanDeltasUptoRow : OpenClaim := { program := "ytbgeceiddcokmaa", sum := "5e1f25e9d32fda08ddcabc2ec7f8a62c559f40a87c79888bb9c9e060c9e42368", func := "contango/contangolaw23.ScanDeltas", spec := "scanDeltas", inPlace := ["slices.overlaps[int]"], plainKeys := false, apart := false, narrowed := true }
def ScanDeltasUptoSaid : Prop := scanDeltasUptoRow.holds Try.pinned (OpenSpec.upto scanDeltasSpec)

/-- 'contangolaw23.ScanParts', WHERE WHAT IT READS IS OF BULK AT MOST 1048576: true; the input reads as it did. -/
def scanPartsUptoRow : OpenClaim := { program := "ytbgeceiddcokmaa", sum := "5e1f25e9d32fda08ddcabc2ec7f8a62c559f40a87c79888bb9c9e060c9e42368", func := "contango/contangolaw23.ScanParts", spec := "scanParts", inPlace := ["slices.overlaps[int]"], plainKeys := false, apart := false, narrowed := true }
def ScanPartsUptoSaid : Prop := scanPartsUptoRow.holds Try.pinned (OpenSpec.upto scanPartsSpec)

/-- 'contangotop.TopHedged', WHERE WHAT IT READS IS OF BULK AT MOST 1048576: true; the input reads as it did. -/
def topHedgedUptoRow : OpenClaim := { program := "ytbgeceiddcokmaa", sum := "5e1f25e9d32fda08ddcabc2ec7f8a62c559f40a87c79888bb9c9e060c9e42368", func := "contango/contangotop.TopHedged", spec := "topHedged", unfollowed := true, recurses := true, plainKeys := false, apart := false, narrowed := true }
def TopHedgedUptoSaid : Prop := topHedgedUptoRow.holds Try.pinned (OpenSpec.upto topHedgedSpec)

end Rows
end Go.Proofs.Ytbgeceiddcokmaa
