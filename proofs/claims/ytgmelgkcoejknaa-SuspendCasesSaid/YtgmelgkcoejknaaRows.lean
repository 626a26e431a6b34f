/-
  No cell of these rows narrows 'for every input' (looked for: loops, veiled, ifaces, maps, wideKeys, modest, calm, conditions, laid).
  DERIVED. THE GIVEN ROWS OF THIS SEAT. 4 by the template 'for every input the law returns true; each argument reads behind the call as it read before'; 0 by the template 'total and deterministic' (their statements: YtgmelgkcoejknaaTotals.lean).
  GIVEN WITH THE SEED: the statements are not yours to turn. If you find one false, say at which input.
  Laid BY PROGRAM, IN A SANDBOX (cutbox-rows.mjs): the forced cells as the released guide's own fill.sh prints them over the translation 4624b9027d762284… (all of the seat's roots in one cut). By AI agents, Wed Nov 11 2026. No macro, syntax, notation, axiom, sorry.
-/
import Derived.Test.YtgmelgkcoejknaaChecked
import GoSem.Claim
import GoSem.ClaimJoined
import GoSem.ClaimMapViews
import Derived.JoinedTies
import Derived.KernelRfl
namespace Go.Proofs.Ytgmelgkcoejknaa
/- THE CELL 'sum', in the pinned program and in every row, IS THE sha256 OF THE DUMP (.gsa) THAT YtgmelgkcoejknaaProg.lean LOADS. Nothing in Lean hashes anything: it is a label: what it is worth is what the hold of that sum in a sandbox is worth. -/
noncomputable def Try.pinned : Pinned := { name := "ytgmelgkcoejknaa", sum := "4624b9027d762284a872cadfcf95bac22e085dda1642b19568de111d612c8606", checked := Try.checked }
namespace Rows
def none {H : Type} : Left H := { results := [], args := [] }

/-- 'contangolaw41.SuspendSteps': WHATEVER THE INPUT: true; the input reads as it did. -/
def suspendStepsSpec : ChangeSpec := { name := "suspendSteps", fn := fun _ => fun
  | [d1, d2, d3] => { results := [.lit (.bool true)], args := [d1, d2, d3] }
  | _ => none }
def suspendStepsRow : OpenClaim := { program := "ytgmelgkcoejknaa", sum := "4624b9027d762284a872cadfcf95bac22e085dda1642b19568de111d612c8606", func := "contango/contangolaw41.SuspendSteps", spec := "suspendSteps", inPlace := ["internal/bytealg.abigen_runtime_cmpstring", "slices.overlaps[contango/suspend.Case]"], unfollowed := true, recurses := true, apart := false }
def SuspendStepsSaid : Prop := suspendStepsRow.holds Try.pinned (OpenSpec.ofChange suspendStepsSpec)

/-- ITS FALSE NEIGHBOUR: 'it returns false'. Refute it at one input. -/
def suspendStepsWrong : ChangeSpec := { name := "suspendSteps", fn := fun _ => fun
  | [d1, d2, d3] => { results := [.lit (.bool false)], args := [d1, d2, d3] }
  | _ => none }
def SuspendStepsWrongFalsely : Prop := suspendStepsRow.holds Try.pinned (OpenSpec.ofChange suspendStepsWrong)

/-- 'contangolaw41.SuspendMay': WHATEVER THE INPUT: true; the input reads as it did. -/
def suspendMaySpec : ChangeSpec := { name := "suspendMay", fn := fun _ => fun
  | [d1, d2] => { results := [.lit (.bool true)], args := [d1, d2] }
  | _ => none }
def suspendMayRow : OpenClaim := { program := "ytgmelgkcoejknaa", sum := "4624b9027d762284a872cadfcf95bac22e085dda1642b19568de111d612c8606", func := "contango/contangolaw41.SuspendMay", spec := "suspendMay", inPlace := ["internal/bytealg.abigen_runtime_cmpstring", "slices.overlaps[contango/suspend.Case]"], unfollowed := true, recurses := true, apart := false }
def SuspendMaySaid : Prop := suspendMayRow.holds Try.pinned (OpenSpec.ofChange suspendMaySpec)

/-- ITS FALSE NEIGHBOUR: 'it returns false'. Refute it at one input. -/
def suspendMayWrong : ChangeSpec := { name := "suspendMay", fn := fun _ => fun
  | [d1, d2] => { results := [.lit (.bool false)], args := [d1, d2] }
  | _ => none }
def SuspendMayWrongFalsely : Prop := suspendMayRow.holds Try.pinned (OpenSpec.ofChange suspendMayWrong)

/-- 'contangolaw41.SuspendOnly': WHATEVER THE INPUT: true; the input reads as it did. -/
def suspendOnlySpec : ChangeSpec := { name := "suspendOnly", fn := fun _ => fun
  | [d1, d2, d3] => { results := [.lit (.bool true)], args := [d1, d2, d3] }
  | _ => none }
def suspendOnlyRow : OpenClaim := { program := "ytgmelgkcoejknaa", sum := "4624b9027d762284a872cadfcf95bac22e085dda1642b19568de111d612c8606", func := "contango/contangolaw41.SuspendOnly", spec := "suspendOnly", inPlace := ["internal/bytealg.abigen_runtime_cmpstring", "slices.overlaps[contango/suspend.Case]"], unfollowed := true, recurses := true, apart := false }
def SuspendOnlySaid : Prop := suspendOnlyRow.holds Try.pinned (OpenSpec.ofChange suspendOnlySpec)

/-- ITS FALSE NEIGHBOUR: 'it returns false'. Refute it at one input. -/
def suspendOnlyWrong : ChangeSpec := { name := "suspendOnly", fn := fun _ => fun
  | [d1, d2, d3] => { results := [.lit (.bool false)], args := [d1, d2, d3] }
  | _ => none }
def SuspendOnlyWrongFalsely : Prop := suspendOnlyRow.holds Try.pinned (OpenSpec.ofChange suspendOnlyWrong)

/-- 'contangolaw41.SuspendCases': WHATEVER THE INPUT: true; the input reads as it did. -/
def suspendCasesSpec : ChangeSpec := { name := "suspendCases", fn := fun _ => fun
  | [d1, d2, d3] => { results := [.lit (.bool true)], args := [d1, d2, d3] }
  | _ => none }
def suspendCasesRow : OpenClaim := { program := "ytgmelgkcoejknaa", sum := "4624b9027d762284a872cadfcf95bac22e085dda1642b19568de111d612c8606", func := "contango/contangolaw41.SuspendCases", spec := "suspendCases", inPlace := ["internal/bytealg.abigen_runtime_cmpstring", "slices.overlaps[contango/suspend.Case]"], unfollowed := true, recurses := true, apart := false }
def SuspendCasesSaid : Prop := suspendCasesRow.holds Try.pinned (OpenSpec.ofChange suspendCasesSpec)

/-- ITS FALSE NEIGHBOUR: 'it returns false'. Refute it at one input. -/
def suspendCasesWrong : ChangeSpec := { name := "suspendCases", fn := fun _ => fun
  | [d1, d2, d3] => { results := [.lit (.bool false)], args := [d1, d2, d3] }
  | _ => none }
def SuspendCasesWrongFalsely : Prop := suspendCasesRow.holds Try.pinned (OpenSpec.ofChange suspendCasesWrong)

/- THE SECOND FORM. 'bulk': how many values and letters a reading holds, each counted each time it is reached (what is shared counts as often as it is met; a slice's spare places count too). A statement '..UptoSaid' is the law's where the arguments, and the package variables that the reading takes, are together of bulk at most 1048576: NARROWER than '..Said'. Prove '..Said' where nothing that the law and all that it calls make is longer than what came in: it says more and counts as full. Else prove '..UptoSaid'. A law counts once. -/
mutual
def uptoBulk {H : Type} : DataW H → Nat
  | .lit (.string bytes) => bytes.length + 1
  | .lit _ => 1
  | .nil => 1
  | .ptr d => uptoBulk d + 1
  | .slice elems spare => uptoBulkAll elems + uptoBulkAll spare + 1
  | .agg parts => uptoBulkAll parts + 1
  | .iface _ d => uptoBulk d + 1
  | .map entries => uptoBulkEntries entries + 1
  | .held _ => 1
def uptoBulkAll {H : Type} : List (DataW H) → Nat
  | [] => 0
  | d :: r => uptoBulk d + uptoBulkAll r
def uptoBulkEntries {H : Type} : List (Lit × DataW H) → Nat
  | [] => 0
  | x :: r => uptoBulkEntry x + uptoBulkEntries r
def uptoBulkEntry {H : Type} : Lit × DataW H → Nat
  | (.string bytes, d) => bytes.length + uptoBulk d + 1
  | (_, d) => uptoBulk d + 1
 end
def uptoSmall : (H : Type) → List (DataW H) → Bool := fun _ ds => decide (uptoBulkAll ds ≤ 1048576)
def OpenSpec.upto (s : _root_.Go.ChangeSpec) : _root_.Go.OpenSpec := { _root_.Go.OpenSpec.ofChange s with cond := some uptoSmall }

/-- 'contangolaw41.SuspendSteps', WHERE WHAT IT READS IS OF BULK AT MOST 1048576: true; the input reads as it did. -/
def suspendStepsUptoRow : OpenClaim := { program := "ytgmelgkcoejknaa", sum := "4624b9027d762284a872cadfcf95bac22e085dda1642b19568de111d612c8606", func := "contango/contangolaw41.SuspendSteps", spec := "suspendSteps", inPlace := ["internal/bytealg.abigen_runtime_cmpstring", "slices.overlaps[contango/suspend.Case]"], unfollowed := true, recurses := true, apart := false, narrowed := true }
def SuspendStepsUptoSaid : Prop := suspendStepsUptoRow.holds Try.pinned (OpenSpec.upto suspendStepsSpec)

/-- 'contangolaw41.SuspendMay', WHERE WHAT IT READS IS OF BULK AT MOST 1048576: true; the input reads as it did. -/
def suspendMayUptoRow : OpenClaim := { program := "ytgmelgkcoejknaa", sum := "4624b9027d762284a872cadfcf95bac22e085dda1642b19568de111d612c8606", func := "contango/contangolaw41.SuspendMay", spec := "suspendMay", inPlace := ["internal/bytealg.abigen_runtime_cmpstring", "slices.overlaps[contango/suspend.Case]"], unfollowed := true, recurses := true, apart := false, narrowed := true }
def SuspendMayUptoSaid : Prop := suspendMayUptoRow.holds Try.pinned (OpenSpec.upto suspendMaySpec)

/-- 'contangolaw41.SuspendOnly', WHERE WHAT IT READS IS OF BULK AT MOST 1048576: true; the input reads as it did. -/
def suspendOnlyUptoRow : OpenClaim := { program := "ytgmelgkcoejknaa", sum := "4624b9027d762284a872cadfcf95bac22e085dda1642b19568de111d612c8606", func := "contango/contangolaw41.SuspendOnly", spec := "suspendOnly", inPlace := ["internal/bytealg.abigen_runtime_cmpstring", "slices.overlaps[contango/suspend.Case]"], unfollowed := true, recurses := true, apart := false, narrowed := true }
def SuspendOnlyUptoSaid : Prop := suspendOnlyUptoRow.holds Try.pinned (OpenSpec.upto suspendOnlySpec)

/-- 'contangolaw41.SuspendCases', WHERE WHAT IT READS IS OF BULK AT MOST 1048576: true; the input reads as it did. -/
def suspendCasesUptoRow : OpenClaim := { program := "ytgmelgkcoejknaa", sum := "4624b9027d762284a872cadfcf95bac22e085dda1642b19568de111d612c8606", func := "contango/contangolaw41.SuspendCases", spec := "suspendCases", inPlace := ["internal/bytealg.abigen_runtime_cmpstring", "slices.overlaps[contango/suspend.Case]"], unfollowed := true, recurses := true, apart := false, narrowed := true }
def SuspendCasesUptoSaid : Prop := suspendCasesUptoRow.holds Try.pinned (OpenSpec.upto suspendCasesSpec)

end Rows
end Go.Proofs.Ytgmelgkcoejknaa
