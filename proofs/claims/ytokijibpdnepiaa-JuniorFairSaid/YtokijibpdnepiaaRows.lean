/-
  No cell of these rows narrows 'for every input' (looked for: loops, veiled, ifaces, maps, wideKeys, modest, calm, conditions, laid).
  DERIVED. THE GIVEN ROWS OF THIS SEAT. 12 by the template 'for every input the law returns true; each argument reads behind the call as it read before'; 0 by the template 'total and deterministic' (their statements: YtokijibpdnepiaaTotals.lean).
  GIVEN WITH THE SEED: the statements are not yours to turn. If you find one false, say at which input.
  Laid BY PROGRAM, IN A SANDBOX (cutbox-rows.mjs): the forced cells as the released guide's own fill.sh prints them over the translation 5c18e8115dab0c82… (all of the seat's roots in one cut). By AI agents, Wed Nov 11 2026. No macro, syntax, notation, axiom, sorry.
-/
import Derived.Test.YtokijibpdnepiaaChecked
import GoSem.Claim
import GoSem.ClaimJoined
import GoSem.ClaimMapViews
import Derived.JoinedTies
import Derived.KernelRfl
namespace Go.Proofs.Ytokijibpdnepiaa
/- THE CELL 'sum', in the pinned program and in every row, IS THE sha256 OF THE DUMP (.gsa) THAT YtokijibpdnepiaaProg.lean LOADS. Nothing in Lean hashes anything: it is a label: what it is worth is what the hold of that sum in a sandbox is worth. -/
noncomputable def Try.pinned : Pinned := { name := "ytokijibpdnepiaa", sum := "5c18e8115dab0c823f974272c1b8d1f04509a3fcc2e5d6698bce5ae1b31373b8", checked := Try.checked }
namespace Rows
def none {H : Type} : Left H := { results := [], args := [] }

/-- 'contangolaw45.AuctionRanks': WHATEVER THE INPUT: true; the input reads as it did. -/
def auctionRanksSpec : ChangeSpec := { name := "auctionRanks", fn := fun _ => fun
  | [d] => { results := [.lit (.bool true)], args := [d] }
  | _ => none }
def auctionRanksRow : OpenClaim := { program := "ytokijibpdnepiaa", sum := "5c18e8115dab0c823f974272c1b8d1f04509a3fcc2e5d6698bce5ae1b31373b8", func := "contango/contangolaw45.AuctionRanks", spec := "auctionRanks", inPlace := ["slices.overlaps[contango/api.Bid]"], unfollowed := true, recurses := true, plainKeys := false, apart := false }
def AuctionRanksSaid : Prop := auctionRanksRow.holds Try.pinned (OpenSpec.ofChange auctionRanksSpec)

/-- ITS FALSE NEIGHBOUR: 'it returns false'. Refute it at one input. -/
def auctionRanksWrong : ChangeSpec := { name := "auctionRanks", fn := fun _ => fun
  | [d] => { results := [.lit (.bool false)], args := [d] }
  | _ => none }
def AuctionRanksWrongFalsely : Prop := auctionRanksRow.holds Try.pinned (OpenSpec.ofChange auctionRanksWrong)

/-- 'contangolaw45.AuctionAwards': WHATEVER THE INPUT: true; the input reads as it did. -/
def auctionAwardsSpec : ChangeSpec := { name := "auctionAwards", fn := fun _ => fun
  | [d1, d2, d3] => { results := [.lit (.bool true)], args := [d1, d2, d3] }
  | _ => none }
def auctionAwardsRow : OpenClaim := { program := "ytokijibpdnepiaa", sum := "5c18e8115dab0c823f974272c1b8d1f04509a3fcc2e5d6698bce5ae1b31373b8", func := "contango/contangolaw45.AuctionAwards", spec := "auctionAwards", inPlace := ["slices.overlaps[contango/api.Bid]"], unfollowed := true, recurses := true, plainKeys := false, apart := false }
def AuctionAwardsSaid : Prop := auctionAwardsRow.holds Try.pinned (OpenSpec.ofChange auctionAwardsSpec)

/-- ITS FALSE NEIGHBOUR: 'it returns false'. Refute it at one input. -/
def auctionAwardsWrong : ChangeSpec := { name := "auctionAwards", fn := fun _ => fun
  | [d1, d2, d3] => { results := [.lit (.bool false)], args := [d1, d2, d3] }
  | _ => none }
def AuctionAwardsWrongFalsely : Prop := auctionAwardsRow.holds Try.pinned (OpenSpec.ofChange auctionAwardsWrong)

/-- 'contangolaw45.AuctionCosts': WHATEVER THE INPUT: true; the input reads as it did. -/
def auctionCostsSpec : ChangeSpec := { name := "auctionCosts", fn := fun _ => fun
  | [d] => { results := [.lit (.bool true)], args := [d] }
  | _ => none }
def auctionCostsRow : OpenClaim := { program := "ytokijibpdnepiaa", sum := "5c18e8115dab0c823f974272c1b8d1f04509a3fcc2e5d6698bce5ae1b31373b8", func := "contango/contangolaw45.AuctionCosts", spec := "auctionCosts", inPlace := ["slices.overlaps[contango/api.Bid]"], unfollowed := true, recurses := true, plainKeys := false, apart := false }
def AuctionCostsSaid : Prop := auctionCostsRow.holds Try.pinned (OpenSpec.ofChange auctionCostsSpec)

/-- ITS FALSE NEIGHBOUR: 'it returns false'. Refute it at one input. -/
def auctionCostsWrong : ChangeSpec := { name := "auctionCosts", fn := fun _ => fun
  | [d] => { results := [.lit (.bool false)], args := [d] }
  | _ => none }
def AuctionCostsWrongFalsely : Prop := auctionCostsRow.holds Try.pinned (OpenSpec.ofChange auctionCostsWrong)

/-- 'contangolaw45.AuctionBest': WHATEVER THE INPUT: true; the input reads as it did. -/
def auctionBestSpec : ChangeSpec := { name := "auctionBest", fn := fun _ => fun
  | [d1, d2, d3] => { results := [.lit (.bool true)], args := [d1, d2, d3] }
  | _ => none }
def auctionBestRow : OpenClaim := { program := "ytokijibpdnepiaa", sum := "5c18e8115dab0c823f974272c1b8d1f04509a3fcc2e5d6698bce5ae1b31373b8", func := "contango/contangolaw45.AuctionBest", spec := "auctionBest", inPlace := ["slices.overlaps[contango/api.Bid]"], unfollowed := true, recurses := true, plainKeys := false, apart := false }
def AuctionBestSaid : Prop := auctionBestRow.holds Try.pinned (OpenSpec.ofChange auctionBestSpec)

/-- ITS FALSE NEIGHBOUR: 'it returns false'. Refute it at one input. -/
def auctionBestWrong : ChangeSpec := { name := "auctionBest", fn := fun _ => fun
  | [d1, d2, d3] => { results := [.lit (.bool false)], args := [d1, d2, d3] }
  | _ => none }
def AuctionBestWrongFalsely : Prop := auctionBestRow.holds Try.pinned (OpenSpec.ofChange auctionBestWrong)

/-- 'contangolaw45.AuctionOne': WHATEVER THE INPUT: true; the input reads as it did. -/
def auctionOneSpec : ChangeSpec := { name := "auctionOne", fn := fun _ => fun
  | [d1, d2, d3] => { results := [.lit (.bool true)], args := [d1, d2, d3] }
  | _ => none }
def auctionOneRow : OpenClaim := { program := "ytokijibpdnepiaa", sum := "5c18e8115dab0c823f974272c1b8d1f04509a3fcc2e5d6698bce5ae1b31373b8", func := "contango/contangolaw45.AuctionOne", spec := "auctionOne", inPlace := ["slices.overlaps[contango/api.Bid]"], unfollowed := true, recurses := true, plainKeys := false, apart := false }
def AuctionOneSaid : Prop := auctionOneRow.holds Try.pinned (OpenSpec.ofChange auctionOneSpec)

/-- ITS FALSE NEIGHBOUR: 'it returns false'. Refute it at one input. -/
def auctionOneWrong : ChangeSpec := { name := "auctionOne", fn := fun _ => fun
  | [d1, d2, d3] => { results := [.lit (.bool false)], args := [d1, d2, d3] }
  | _ => none }
def AuctionOneWrongFalsely : Prop := auctionOneRow.holds Try.pinned (OpenSpec.ofChange auctionOneWrong)

/-- 'contangolaw46.JuniorClasses': WHATEVER THE INPUT: true; the input reads as it did. -/
def juniorClassesSpec : ChangeSpec := { name := "juniorClasses", fn := fun _ => fun
  | [d1, d2] => { results := [.lit (.bool true)], args := [d1, d2] }
  | _ => none }
def juniorClassesRow : OpenClaim := { program := "ytokijibpdnepiaa", sum := "5c18e8115dab0c823f974272c1b8d1f04509a3fcc2e5d6698bce5ae1b31373b8", func := "contango/contangolaw46.JuniorClasses", spec := "juniorClasses", unfollowed := true, recurses := true, plainKeys := false, apart := false }
def JuniorClassesSaid : Prop := juniorClassesRow.holds Try.pinned (OpenSpec.ofChange juniorClassesSpec)

/-- ITS FALSE NEIGHBOUR: 'it returns false'. Refute it at one input. -/
def juniorClassesWrong : ChangeSpec := { name := "juniorClasses", fn := fun _ => fun
  | [d1, d2] => { results := [.lit (.bool false)], args := [d1, d2] }
  | _ => none }
def JuniorClassesWrongFalsely : Prop := juniorClassesRow.holds Try.pinned (OpenSpec.ofChange juniorClassesWrong)

/-- 'contangolaw46.JuniorOrders': WHATEVER THE INPUT: true; the input reads as it did. -/
def juniorOrdersSpec : ChangeSpec := { name := "juniorOrders", fn := fun _ => fun
  | [d1, d2] => { results := [.lit (.bool true)], args := [d1, d2] }
  | _ => none }
def juniorOrdersRow : OpenClaim := { program := "ytokijibpdnepiaa", sum := "5c18e8115dab0c823f974272c1b8d1f04509a3fcc2e5d6698bce5ae1b31373b8", func := "contango/contangolaw46.JuniorOrders", spec := "juniorOrders", unfollowed := true, recurses := true, plainKeys := false, apart := false }
def JuniorOrdersSaid : Prop := juniorOrdersRow.holds Try.pinned (OpenSpec.ofChange juniorOrdersSpec)

/-- ITS FALSE NEIGHBOUR: 'it returns false'. Refute it at one input. -/
def juniorOrdersWrong : ChangeSpec := { name := "juniorOrders", fn := fun _ => fun
  | [d1, d2] => { results := [.lit (.bool false)], args := [d1, d2] }
  | _ => none }
def JuniorOrdersWrongFalsely : Prop := juniorOrdersRow.holds Try.pinned (OpenSpec.ofChange juniorOrdersWrong)

/-- 'contangolaw46.JuniorOnce': WHATEVER THE INPUT: true; the input reads as it did. -/
def juniorOnceSpec : ChangeSpec := { name := "juniorOnce", fn := fun _ => fun
  | [d1, d2] => { results := [.lit (.bool true)], args := [d1, d2] }
  | _ => none }
def juniorOnceRow : OpenClaim := { program := "ytokijibpdnepiaa", sum := "5c18e8115dab0c823f974272c1b8d1f04509a3fcc2e5d6698bce5ae1b31373b8", func := "contango/contangolaw46.JuniorOnce", spec := "juniorOnce", unfollowed := true, recurses := true, plainKeys := false, apart := false }
def JuniorOnceSaid : Prop := juniorOnceRow.holds Try.pinned (OpenSpec.ofChange juniorOnceSpec)

/-- ITS FALSE NEIGHBOUR: 'it returns false'. Refute it at one input. -/
def juniorOnceWrong : ChangeSpec := { name := "juniorOnce", fn := fun _ => fun
  | [d1, d2] => { results := [.lit (.bool false)], args := [d1, d2] }
  | _ => none }
def JuniorOnceWrongFalsely : Prop := juniorOnceRow.holds Try.pinned (OpenSpec.ofChange juniorOnceWrong)

/-- 'contangolaw46.JuniorFair': WHATEVER THE INPUT: true; the input reads as it did. -/
def juniorFairSpec : ChangeSpec := { name := "juniorFair", fn := fun _ => fun
  | [d1, d2] => { results := [.lit (.bool true)], args := [d1, d2] }
  | _ => none }
def juniorFairRow : OpenClaim := { program := "ytokijibpdnepiaa", sum := "5c18e8115dab0c823f974272c1b8d1f04509a3fcc2e5d6698bce5ae1b31373b8", func := "contango/contangolaw46.JuniorFair", spec := "juniorFair", unfollowed := true, recurses := true, plainKeys := false, apart := false }
def JuniorFairSaid : Prop := juniorFairRow.holds Try.pinned (OpenSpec.ofChange juniorFairSpec)

/-- ITS FALSE NEIGHBOUR: 'it returns false'. Refute it at one input. -/
def juniorFairWrong : ChangeSpec := { name := "juniorFair", fn := fun _ => fun
  | [d1, d2] => { results := [.lit (.bool false)], args := [d1, d2] }
  | _ => none }
def JuniorFairWrongFalsely : Prop := juniorFairRow.holds Try.pinned (OpenSpec.ofChange juniorFairWrong)

/-- 'contangolaw45.AuctionMissing': WHATEVER THE INPUT: true; the input reads as it did. -/
def auctionMissingSpec : ChangeSpec := { name := "auctionMissing", fn := fun _ => fun
  | [d1, d2, d3] => { results := [.lit (.bool true)], args := [d1, d2, d3] }
  | _ => none }
def auctionMissingRow : OpenClaim := { program := "ytokijibpdnepiaa", sum := "5c18e8115dab0c823f974272c1b8d1f04509a3fcc2e5d6698bce5ae1b31373b8", func := "contango/contangolaw45.AuctionMissing", spec := "auctionMissing", inPlace := ["slices.overlaps[contango/api.Bid]"], unfollowed := true, recurses := true, plainKeys := false, apart := false }
def AuctionMissingSaid : Prop := auctionMissingRow.holds Try.pinned (OpenSpec.ofChange auctionMissingSpec)

/-- ITS FALSE NEIGHBOUR: 'it returns false'. Refute it at one input. -/
def auctionMissingWrong : ChangeSpec := { name := "auctionMissing", fn := fun _ => fun
  | [d1, d2, d3] => { results := [.lit (.bool false)], args := [d1, d2, d3] }
  | _ => none }
def AuctionMissingWrongFalsely : Prop := auctionMissingRow.holds Try.pinned (OpenSpec.ofChange auctionMissingWrong)

/-- 'contangotop.TopSold': WHATEVER THE INPUT: true; the input reads as it did. -/
def topSoldSpec : ChangeSpec := { name := "topSold", fn := fun _ => fun
  | [d1, d2, d3] => { results := [.lit (.bool true)], args := [d1, d2, d3] }
  | _ => none }
def topSoldRow : OpenClaim := { program := "ytokijibpdnepiaa", sum := "5c18e8115dab0c823f974272c1b8d1f04509a3fcc2e5d6698bce5ae1b31373b8", func := "contango/contangotop.TopSold", spec := "topSold", inPlace := ["slices.overlaps[contango/api.Bid]"], unfollowed := true, recurses := true, plainKeys := false, apart := false }
def TopSoldSaid : Prop := topSoldRow.holds Try.pinned (OpenSpec.ofChange topSoldSpec)

/-- ITS FALSE NEIGHBOUR: 'it returns false'. Refute it at one input. -/
def topSoldWrong : ChangeSpec := { name := "topSold", fn := fun _ => fun
  | [d1, d2, d3] => { results := [.lit (.bool false)], args := [d1, d2, d3] }
  | _ => none }
def TopSoldWrongFalsely : Prop := topSoldRow.holds Try.pinned (OpenSpec.ofChange topSoldWrong)

/-- 'contangotop.TopJunior': WHATEVER THE INPUT: true; the input reads as it did. -/
def topJuniorSpec : ChangeSpec := { name := "topJunior", fn := fun _ => fun
  | [d1, d2] => { results := [.lit (.bool true)], args := [d1, d2] }
  | _ => none }
def topJuniorRow : OpenClaim := { program := "ytokijibpdnepiaa", sum := "5c18e8115dab0c823f974272c1b8d1f04509a3fcc2e5d6698bce5ae1b31373b8", func := "contango/contangotop.TopJunior", spec := "topJunior", inPlace := ["slices.overlaps[contango/api.Bid]"], unfollowed := true, recurses := true, named := ["math/bits.divideError", "math/bits.overflowError"], plainKeys := false, apart := false }
def TopJuniorSaid : Prop := topJuniorRow.holds Try.pinned (OpenSpec.ofChange topJuniorSpec)

/-- ITS FALSE NEIGHBOUR: 'it returns false'. Refute it at one input. -/
def topJuniorWrong : ChangeSpec := { name := "topJunior", fn := fun _ => fun
  | [d1, d2] => { results := [.lit (.bool false)], args := [d1, d2] }
  | _ => none }
def TopJuniorWrongFalsely : Prop := topJuniorRow.holds Try.pinned (OpenSpec.ofChange topJuniorWrong)

/- THE SECOND FORM. 'bulk': how many values and letters a reading holds, each counted each time it is reached (what is shared counts as often as it is met; a slice's spare places count too). A statement '..UptoSaid' is the law's where the arguments, and the package variables that the reading takes, are together of bulk at most 1048576: NARROWER than '..Said'. Prove '..Said' where nothing that the law and all that it calls make is longer than what came in: it says more and counts as full. Else prove '..UptoSaid'. A law counts once. -/
mutual
def uptoBulk {H : Type} : DataW H → Nat
  | .lit (.string bytes) => bytes.length + 1
  | .lit _ => 1
  | .nil => 1
  | .ptr d => uptoBulk d + 1
  | .slice elems spare => uptoBulkAll elems + uptoBulkAll spare + 1
  | .agg parts => uptoBulkAll parts + 1
  | .iface _ d => uptoBulk d + 1
  | .map entries => uptoBulkEntries entries + 1
  | .held _ => 1
def uptoBulkAll {H : Type} : List (DataW H) → Nat
  | [] => 0
  | d :: r => uptoBulk d + uptoBulkAll r
def uptoBulkEntries {H : Type} : List (Lit × DataW H) → Nat
  | [] => 0
  | x :: r => uptoBulkEntry x + uptoBulkEntries r
def uptoBulkEntry {H : Type} : Lit × DataW H → Nat
  | (.string bytes, d) => bytes.length + uptoBulk d + 1
  | (_, d) => uptoBulk d + 1
 end
def uptoSmall : (H : Type) → List (DataW H) → Bool := fun _ ds => decide (uptoBulkAll ds ≤ 1048576)
def OpenSpec.upto (s : _root_.Go.ChangeSpec) : _root_.Go.OpenSpec := { _root_.Go.OpenSpec.ofChange s with cond := some uptoSmall }

/-- 'contangolaw45.AuctionRanks', WHERE WHAT IT READS IS OF BULK AT MOST 1048576: true; the input reads as it did. -/
def auctionRanksUptoRow : OpenClaim := { program := "ytokijibpdnepiaa", sum := "5c18e8115dab0c823f974272c1b8d1f04509a3fcc2e5d6698bce5ae1b31373b8", func := "contango/contangolaw45.AuctionRanks", spec := "auctionRanks", inPlace := ["slices.overlaps[contango/api.Bid]"], unfollowed := true, recurses := true, plainKeys := false, apart := false, narrowed := true }
def AuctionRanksUptoSaid : Prop := auctionRanksUptoRow.holds Try.pinned (OpenSpec.upto auctionRanksSpec)

/-- 'contangolaw45.AuctionAwards', WHERE WHAT IT READS IS OF BULK AT MOST 1048576: true; the input reads as it did. -/
def auctionAwardsUptoRow : OpenClaim := { program := "ytokijibpdnepiaa", sum := "5c18e8115dab0c823f974272c1b8d1f04509a3fcc2e5d6698bce5ae1b31373b8", func := "contango/contangolaw45.AuctionAwards", spec := "auctionAwards", inPlace := ["slices.overlaps[contango/api.Bid]"], unfollowed := true, recurses := true, plainKeys := false, apart := false, narrowed := true }
def AuctionAwardsUptoSaid : Prop := auctionAwardsUptoRow.holds Try.pinned (OpenSpec.upto auctionAwardsSpec)

/-- 'contangolaw45.AuctionCosts', WHERE WHAT IT READS IS OF BULK AT MOST 1048576: true; the input reads as it did. -/
def auctionCostsUptoRow : OpenClaim := { program := "ytokijibpdnepiaa", sum := "5c18e8115dab0c823f974272c1b8d1f04509a3fcc2e5d6698bce5ae1b31373b8", func := "contango/contangolaw45.AuctionCosts", spec := "auctionCosts", inPlace := ["slices.overlaps[contango/api.Bid]"], unfollowed := true, recurses := true, plainKeys := false, apart := false, narrowed := true }
def AuctionCostsUptoSaid : Prop := auctionCostsUptoRow.holds Try.pinned (OpenSpec.upto auctionCostsSpec)

/-- 'contangolaw45.AuctionBest', WHERE WHAT IT READS IS OF BULK AT MOST 1048576: true; the input reads as it did. -/
def auctionBestUptoRow : OpenClaim := { program := "ytokijibpdnepiaa", sum := "5c18e8115dab0c823f974272c1b8d1f04509a3fcc2e5d6698bce5ae1b31373b8", func := "contango/contangolaw45.AuctionBest", spec := "auctionBest", inPlace := ["slices.overlaps[contango/api.Bid]"], unfollowed := true, recurses := true, plainKeys := false, apart := false, narrowed := true }
def AuctionBestUptoSaid : Prop := auctionBestUptoRow.holds Try.pinned (OpenSpec.upto auctionBestSpec)

/-- 'contangolaw45.AuctionOne', WHERE WHAT IT READS IS OF BULK AT MOST 1048576: true; the input reads as it did. -/
def auctionOneUptoRow : OpenClaim := { program := "ytokijibpdnepiaa", sum := "5c18e8115dab0c823f974272c1b8d1f04509a3fcc2e5d6698bce5ae1b31373b8", func := "contango/contangolaw45.AuctionOne", spec := "auctionOne", inPlace := ["slices.overlaps[contango/api.Bid]"], unfollowed := true, recurses := true, plainKeys := false, apart := false, narrowed := true }
def AuctionOneUptoSaid : Prop := auctionOneUptoRow.holds Try.pinned (OpenSpec.upto auctionOneSpec)

/-- 'contangolaw46.JuniorClasses', WHERE WHAT IT READS IS OF BULK AT MOST 1048576: true; the input reads as it did. -/
def juniorClassesUptoRow : OpenClaim := { program := "ytokijibpdnepiaa", sum := "5c18e8115dab0c823f974272c1b8d1f04509a3fcc2e5d6698bce5ae1b31373b8", func := "contango/contangolaw46.JuniorClasses", spec := "juniorClasses", unfollowed := true, recurses := true, plainKeys := false, apart := false, narrowed := true }
def JuniorClassesUptoSaid : Prop := juniorClassesUptoRow.holds Try.pinned (OpenSpec.upto juniorClassesSpec)

/-- 'contangolaw46.JuniorOrders', WHERE WHAT IT READS IS OF BULK AT MOST 1048576: true; the input reads as it did. -/
def juniorOrdersUptoRow : OpenClaim := { program := "ytokijibpdnepiaa", sum := "5c18e8115dab0c823f974272c1b8d1f04509a3fcc2e5d6698bce5ae1b31373b8", func := "contango/contangolaw46.JuniorOrders", spec := "juniorOrders", unfollowed := true, recurses := true, plainKeys := false, apart := false, narrowed := true }
def JuniorOrdersUptoSaid : Prop := juniorOrdersUptoRow.holds Try.pinned (OpenSpec.upto juniorOrdersSpec)

/-- 'contangolaw46.JuniorOnce', WHERE WHAT IT READS IS OF BULK AT MOST 1048576: true; the input reads as it did. -/
def juniorOnceUptoRow : OpenClaim := { program := "ytokijibpdnepiaa", sum := "5c18e8115dab0c823f974272c1b8d1f04509a3fcc2e5d6698bce5ae1b31373b8", func := "contango/contangolaw46.JuniorOnce", spec := "juniorOnce", unfollowed := true, recurses := true, plainKeys := false, apart := false, narrowed := true }
def JuniorOnceUptoSaid : Prop := juniorOnceUptoRow.holds Try.pinned (OpenSpec.upto juniorOnceSpec)

/-- 'contangolaw46.JuniorFair', WHERE WHAT IT READS IS OF BULK AT MOST 1048576: true; the input reads as it did. -/
def juniorFairUptoRow : OpenClaim := { program := "ytokijibpdnepiaa", sum := "5c18e8115dab0c823f974272c1b8d1f04509a3fcc2e5d6698bce5ae1b31373b8", func := "contango/contangolaw46.JuniorFair", spec := "juniorFair", unfollowed := true, recurses := true, plainKeys := false, apart := false, narrowed := true }
def JuniorFairUptoSaid : Prop := juniorFairUptoRow.holds Try.pinned (OpenSpec.upto juniorFairSpec)

/-- 'contangolaw45.AuctionMissing', WHERE WHAT IT READS IS OF BULK AT MOST 1048576: true; the input reads as it did. -/
def auctionMissingUptoRow : OpenClaim := { program := "ytokijibpdnepiaa", sum := "5c18e8115dab0c823f974272c1b8d1f04509a3fcc2e5d6698bce5ae1b31373b8", func := "contango/contangolaw45.AuctionMissing", spec := "auctionMissing", inPlace := ["slices.overlaps[contango/api.Bid]"], unfollowed := true, recurses := true, plainKeys := false, apart := false, narrowed := true }
def AuctionMissingUptoSaid : Prop := auctionMissingUptoRow.holds Try.pinned (OpenSpec.upto auctionMissingSpec)

/-- 'contangotop.TopSold', WHERE WHAT IT READS IS OF BULK AT MOST 1048576: true; the input reads as it did. -/
def topSoldUptoRow : OpenClaim := { program := "ytokijibpdnepiaa", sum := "5c18e8115dab0c823f974272c1b8d1f04509a3fcc2e5d6698bce5ae1b31373b8", func := "contango/contangotop.TopSold", spec := "topSold", inPlace := ["slices.overlaps[contango/api.Bid]"], unfollowed := true, recurses := true, plainKeys := false, apart := false, narrowed := true }
def TopSoldUptoSaid : Prop := topSoldUptoRow.holds Try.pinned (OpenSpec.upto topSoldSpec)

/-- 'contangotop.TopJunior', WHERE WHAT IT READS IS OF BULK AT MOST 1048576: true; the input reads as it did. -/
def topJuniorUptoRow : OpenClaim := { program := "ytokijibpdnepiaa", sum := "5c18e8115dab0c823f974272c1b8d1f04509a3fcc2e5d6698bce5ae1b31373b8", func := "contango/contangotop.TopJunior", spec := "topJunior", inPlace := ["slices.overlaps[contango/api.Bid]"], unfollowed := true, recurses := true, named := ["math/bits.divideError", "math/bits.overflowError"], plainKeys := false, apart := false, narrowed := true }
def TopJuniorUptoSaid : Prop := topJuniorUptoRow.holds Try.pinned (OpenSpec.upto topJuniorSpec)

end Rows
end Go.Proofs.Ytokijibpdnepiaa
