/-
  NARROWER THAN 'FOR EVERY INPUT', by the rows' own cells (each row's printed sentence says how): SeriesTexts: laid · SeriesBack: laid · SeriesOrder: laid · SeriesOnce: laid · SeriesLists: laid · ProductPrices: laid · ProductTexts: laid · ProductRounds: laid · ProductBack: laid · SeriesChecks: laid · ProductChecks: laid.
  DERIVED. THE GIVEN ROWS OF THIS SEAT. 11 by the template 'for every input the law returns true; each argument reads behind the call as it read before'; 0 by the template 'total and deterministic' (their statements: YtieifncibojciaaDoorTotals.lean).
  GIVEN WITH THE SEED: the statements are not yours to turn. If you find one false, say at which input.
  Laid BY PROGRAM, IN A SANDBOX (cutbox-rows.mjs): the forced cells as the released guide's own fill.sh prints them over the translation 3ed59619ee7720b0… (all of the seat's roots in one cut). By AI agents, Wed Nov 11 2026. No macro, syntax, notation, axiom, sorry.
-/
import Derived.Test.YtieifncibojciaaDoorChecked
import GoSem.PinnedTables
import GoSem.Claim
import GoSem.ClaimJoined
import GoSem.ClaimMapViews
import Derived.JoinedTies
import Derived.KernelRfl
namespace Go.Proofs.YtieifncibojciaaDoor
/- THE CELL 'sum', in the pinned program and in every row, IS THE sha256 OF THE DUMP (.gsa) THAT YtieifncibojciaaDoorProg.lean LOADS. Nothing in Lean hashes anything: it is a label: what it is worth is what the hold of that sum in a sandbox is worth. -/
noncomputable def Tryd.pinned : Pinned := { name := "ytieifncibojciaadoor", sum := "3ed59619ee7720b0973726299755d9840fb2bfc413beebf75099f8ca6519265a", checked := Tryd.checked }
namespace Rows
def none {H : Type} : Left H := { results := [], args := [] }

/- WHAT THE LISTED PACKAGE-LEVEL VARIABLES READ AS WHEN THE CALL BEGINS. Each datum BY PROGRAM (the guide's laid-datum.mjs) off the statement by which the dump's own 'gosem.cut.vars' lays the variable. In a bare row this is a premise. The card (YtieifncibojciaaDoorCards.lean) ties it to the program's text. -/
def laid_unicode_utf8_acceptRanges {H : Type} : DataW H := .agg [.agg [.lit (.int .u8 128), .lit (.int .u8 191)], .agg [.lit (.int .u8 160), .lit (.int .u8 191)], .agg [.lit (.int .u8 128), .lit (.int .u8 159)], .agg [.lit (.int .u8 144), .lit (.int .u8 191)], .agg [.lit (.int .u8 128), .lit (.int .u8 143)], .agg [.lit (.int .u8 0), .lit (.int .u8 0)], .agg [.lit (.int .u8 0), .lit (.int .u8 0)], .agg [.lit (.int .u8 0), .lit (.int .u8 0)], .agg [.lit (.int .u8 0), .lit (.int .u8 0)], .agg [.lit (.int .u8 0), .lit (.int .u8 0)], .agg [.lit (.int .u8 0), .lit (.int .u8 0)], .agg [.lit (.int .u8 0), .lit (.int .u8 0)], .agg [.lit (.int .u8 0), .lit (.int .u8 0)], .agg [.lit (.int .u8 0), .lit (.int .u8 0)], .agg [.lit (.int .u8 0), .lit (.int .u8 0)], .agg [.lit (.int .u8 0), .lit (.int .u8 0)]]
def laid_contango_date_long {H : Type} : DataW H := .agg [.lit (.int .i64 0), .lit (.int .i64 31), .lit (.int .i64 28), .lit (.int .i64 31), .lit (.int .i64 30), .lit (.int .i64 31), .lit (.int .i64 30), .lit (.int .i64 31), .lit (.int .i64 31), .lit (.int .i64 30), .lit (.int .i64 31), .lit (.int .i64 30), .lit (.int .i64 31)]
/-- One of Go's own tables, pinned by name: the form's constant. -/
def laid_unicode_utf8_first : DataW Unit := Go.Pinned.utf8First

/-- 'contangolaw10.SeriesTexts': WHATEVER THE INPUT: true; the input reads as it did. -/
def seriesTextsSpec : ChangeSpec := { name := "seriesTexts", fn := fun _ => fun
  | [d1, d2] => { results := [.lit (.bool true)], args := [d1, d2] }
  | _ => none }
def seriesTextsRow : OpenClaim := { program := "ytieifncibojciaadoor", sum := "3ed59619ee7720b0973726299755d9840fb2bfc413beebf75099f8ca6519265a", func := "contango/contangolaw10.SeriesTexts", spec := "seriesTexts", inPlace := ["internal/bytealg.CountString", "internal/bytealg.IndexByteString", "internal/bytealg.IndexString", "internal/abi.NoEscape", "internal/bytealg.MakeNoZero"], unfollowed := true, recurses := true, named := ["unicode/utf8.first", "unicode/utf8.acceptRanges", "internal/bytealg.MaxLen", "contango/date.long"], apart := false, laid := [("unicode/utf8.acceptRanges", laid_unicode_utf8_acceptRanges), ("contango/date.long", laid_contango_date_long), ("unicode/utf8.first", laid_unicode_utf8_first)] }
def SeriesTextsSaid : Prop := seriesTextsRow.holds Tryd.pinned (OpenSpec.ofChange seriesTextsSpec)

/-- ITS FALSE NEIGHBOUR: 'it returns false'. Refute it at one input. -/
def seriesTextsWrong : ChangeSpec := { name := "seriesTexts", fn := fun _ => fun
  | [d1, d2] => { results := [.lit (.bool false)], args := [d1, d2] }
  | _ => none }
def SeriesTextsWrongFalsely : Prop := seriesTextsRow.holds Tryd.pinned (OpenSpec.ofChange seriesTextsWrong)

/-- 'contangolaw10.SeriesBack': WHATEVER THE INPUT: true; the input reads as it did. -/
def seriesBackSpec : ChangeSpec := { name := "seriesBack", fn := fun _ => fun
  | [d1, d2] => { results := [.lit (.bool true)], args := [d1, d2] }
  | _ => none }
def seriesBackRow : OpenClaim := { program := "ytieifncibojciaadoor", sum := "3ed59619ee7720b0973726299755d9840fb2bfc413beebf75099f8ca6519265a", func := "contango/contangolaw10.SeriesBack", spec := "seriesBack", inPlace := ["internal/bytealg.CountString", "internal/bytealg.IndexByteString", "internal/bytealg.IndexString", "internal/abi.NoEscape", "internal/bytealg.MakeNoZero"], unfollowed := true, recurses := true, named := ["unicode/utf8.first", "unicode/utf8.acceptRanges", "internal/bytealg.MaxLen", "contango/date.long"], apart := false, laid := [("unicode/utf8.acceptRanges", laid_unicode_utf8_acceptRanges), ("contango/date.long", laid_contango_date_long), ("unicode/utf8.first", laid_unicode_utf8_first)] }
def SeriesBackSaid : Prop := seriesBackRow.holds Tryd.pinned (OpenSpec.ofChange seriesBackSpec)

/-- ITS FALSE NEIGHBOUR: 'it returns false'. Refute it at one input. -/
def seriesBackWrong : ChangeSpec := { name := "seriesBack", fn := fun _ => fun
  | [d1, d2] => { results := [.lit (.bool false)], args := [d1, d2] }
  | _ => none }
def SeriesBackWrongFalsely : Prop := seriesBackRow.holds Tryd.pinned (OpenSpec.ofChange seriesBackWrong)

/-- 'contangolaw10.SeriesOrder': WHATEVER THE INPUT: true; the input reads as it did. -/
def seriesOrderSpec : ChangeSpec := { name := "seriesOrder", fn := fun _ => fun
  | [d1, d2, d3] => { results := [.lit (.bool true)], args := [d1, d2, d3] }
  | _ => none }
def seriesOrderRow : OpenClaim := { program := "ytieifncibojciaadoor", sum := "3ed59619ee7720b0973726299755d9840fb2bfc413beebf75099f8ca6519265a", func := "contango/contangolaw10.SeriesOrder", spec := "seriesOrder", inPlace := ["internal/bytealg.CountString", "internal/bytealg.IndexByteString", "internal/bytealg.IndexString", "internal/abi.NoEscape", "internal/bytealg.MakeNoZero"], unfollowed := true, recurses := true, named := ["unicode/utf8.first", "unicode/utf8.acceptRanges", "internal/bytealg.MaxLen", "contango/date.long"], apart := false, laid := [("unicode/utf8.acceptRanges", laid_unicode_utf8_acceptRanges), ("contango/date.long", laid_contango_date_long), ("unicode/utf8.first", laid_unicode_utf8_first)] }
def SeriesOrderSaid : Prop := seriesOrderRow.holds Tryd.pinned (OpenSpec.ofChange seriesOrderSpec)

/-- ITS FALSE NEIGHBOUR: 'it returns false'. Refute it at one input. -/
def seriesOrderWrong : ChangeSpec := { name := "seriesOrder", fn := fun _ => fun
  | [d1, d2, d3] => { results := [.lit (.bool false)], args := [d1, d2, d3] }
  | _ => none }
def SeriesOrderWrongFalsely : Prop := seriesOrderRow.holds Tryd.pinned (OpenSpec.ofChange seriesOrderWrong)

/-- 'contangolaw10.SeriesOnce': WHATEVER THE INPUT: true; the input reads as it did. -/
def seriesOnceSpec : ChangeSpec := { name := "seriesOnce", fn := fun _ => fun
  | [d] => { results := [.lit (.bool true)], args := [d] }
  | _ => none }
def seriesOnceRow : OpenClaim := { program := "ytieifncibojciaadoor", sum := "3ed59619ee7720b0973726299755d9840fb2bfc413beebf75099f8ca6519265a", func := "contango/contangolaw10.SeriesOnce", spec := "seriesOnce", inPlace := ["internal/bytealg.CountString", "internal/bytealg.IndexByteString", "internal/bytealg.IndexString", "internal/abi.NoEscape", "internal/bytealg.MakeNoZero"], unfollowed := true, recurses := true, named := ["unicode/utf8.first", "unicode/utf8.acceptRanges", "internal/bytealg.MaxLen", "contango/date.long"], apart := false, laid := [("unicode/utf8.acceptRanges", laid_unicode_utf8_acceptRanges), ("contango/date.long", laid_contango_date_long), ("unicode/utf8.first", laid_unicode_utf8_first)] }
def SeriesOnceSaid : Prop := seriesOnceRow.holds Tryd.pinned (OpenSpec.ofChange seriesOnceSpec)

/-- ITS FALSE NEIGHBOUR: 'it returns false'. Refute it at one input. -/
def seriesOnceWrong : ChangeSpec := { name := "seriesOnce", fn := fun _ => fun
  | [d] => { results := [.lit (.bool false)], args := [d] }
  | _ => none }
def SeriesOnceWrongFalsely : Prop := seriesOnceRow.holds Tryd.pinned (OpenSpec.ofChange seriesOnceWrong)

/-- 'contangolaw10.SeriesLists': WHATEVER THE INPUT: true; the input reads as it did. -/
def seriesListsSpec : ChangeSpec := { name := "seriesLists", fn := fun _ => fun
  | [d1, d2, d3] => { results := [.lit (.bool true)], args := [d1, d2, d3] }
  | _ => none }
def seriesListsRow : OpenClaim := { program := "ytieifncibojciaadoor", sum := "3ed59619ee7720b0973726299755d9840fb2bfc413beebf75099f8ca6519265a", func := "contango/contangolaw10.SeriesLists", spec := "seriesLists", inPlace := ["internal/bytealg.CountString", "internal/bytealg.IndexByteString", "internal/bytealg.IndexString", "internal/abi.NoEscape", "internal/bytealg.MakeNoZero"], unfollowed := true, recurses := true, named := ["unicode/utf8.first", "unicode/utf8.acceptRanges", "internal/bytealg.MaxLen", "contango/date.long"], apart := false, laid := [("unicode/utf8.acceptRanges", laid_unicode_utf8_acceptRanges), ("contango/date.long", laid_contango_date_long), ("unicode/utf8.first", laid_unicode_utf8_first)] }
def SeriesListsSaid : Prop := seriesListsRow.holds Tryd.pinned (OpenSpec.ofChange seriesListsSpec)

/-- ITS FALSE NEIGHBOUR: 'it returns false'. Refute it at one input. -/
def seriesListsWrong : ChangeSpec := { name := "seriesLists", fn := fun _ => fun
  | [d1, d2, d3] => { results := [.lit (.bool false)], args := [d1, d2, d3] }
  | _ => none }
def SeriesListsWrongFalsely : Prop := seriesListsRow.holds Tryd.pinned (OpenSpec.ofChange seriesListsWrong)

/-- 'contangolaw09.ProductPrices': WHATEVER THE INPUT: true; the input reads as it did. -/
def productPricesSpec : ChangeSpec := { name := "productPrices", fn := fun _ => fun
  | [d1, d2, d3] => { results := [.lit (.bool true)], args := [d1, d2, d3] }
  | _ => none }
def productPricesRow : OpenClaim := { program := "ytieifncibojciaadoor", sum := "3ed59619ee7720b0973726299755d9840fb2bfc413beebf75099f8ca6519265a", func := "contango/contangolaw09.ProductPrices", spec := "productPrices", inPlace := ["internal/bytealg.CountString", "internal/bytealg.IndexByteString", "internal/bytealg.IndexString", "internal/abi.NoEscape", "internal/bytealg.MakeNoZero"], unfollowed := true, recurses := true, named := ["math/bits.divideError", "math/bits.overflowError", "unicode/utf8.first", "unicode/utf8.acceptRanges", "internal/bytealg.MaxLen"], apart := false, laid := [("unicode/utf8.acceptRanges", laid_unicode_utf8_acceptRanges), ("unicode/utf8.first", laid_unicode_utf8_first)] }
def ProductPricesSaid : Prop := productPricesRow.holds Tryd.pinned (OpenSpec.ofChange productPricesSpec)

/-- ITS FALSE NEIGHBOUR: 'it returns false'. Refute it at one input. -/
def productPricesWrong : ChangeSpec := { name := "productPrices", fn := fun _ => fun
  | [d1, d2, d3] => { results := [.lit (.bool false)], args := [d1, d2, d3] }
  | _ => none }
def ProductPricesWrongFalsely : Prop := productPricesRow.holds Tryd.pinned (OpenSpec.ofChange productPricesWrong)

/-- 'contangolaw09.ProductTexts': WHATEVER THE INPUT: true; the input reads as it did. -/
def productTextsSpec : ChangeSpec := { name := "productTexts", fn := fun _ => fun
  | [d1, d2] => { results := [.lit (.bool true)], args := [d1, d2] }
  | _ => none }
def productTextsRow : OpenClaim := { program := "ytieifncibojciaadoor", sum := "3ed59619ee7720b0973726299755d9840fb2bfc413beebf75099f8ca6519265a", func := "contango/contangolaw09.ProductTexts", spec := "productTexts", inPlace := ["internal/bytealg.CountString", "internal/bytealg.IndexByteString", "internal/bytealg.IndexString", "internal/abi.NoEscape", "internal/bytealg.MakeNoZero"], unfollowed := true, recurses := true, named := ["unicode/utf8.first", "unicode/utf8.acceptRanges", "internal/bytealg.MaxLen", "math/bits.divideError", "math/bits.overflowError"], apart := false, laid := [("unicode/utf8.acceptRanges", laid_unicode_utf8_acceptRanges), ("unicode/utf8.first", laid_unicode_utf8_first)] }
def ProductTextsSaid : Prop := productTextsRow.holds Tryd.pinned (OpenSpec.ofChange productTextsSpec)

/-- ITS FALSE NEIGHBOUR: 'it returns false'. Refute it at one input. -/
def productTextsWrong : ChangeSpec := { name := "productTexts", fn := fun _ => fun
  | [d1, d2] => { results := [.lit (.bool false)], args := [d1, d2] }
  | _ => none }
def ProductTextsWrongFalsely : Prop := productTextsRow.holds Tryd.pinned (OpenSpec.ofChange productTextsWrong)

/-- 'contangolaw09.ProductRounds': WHATEVER THE INPUT: true; the input reads as it did. -/
def productRoundsSpec : ChangeSpec := { name := "productRounds", fn := fun _ => fun
  | [d1, d2, d3] => { results := [.lit (.bool true)], args := [d1, d2, d3] }
  | _ => none }
def productRoundsRow : OpenClaim := { program := "ytieifncibojciaadoor", sum := "3ed59619ee7720b0973726299755d9840fb2bfc413beebf75099f8ca6519265a", func := "contango/contangolaw09.ProductRounds", spec := "productRounds", inPlace := ["internal/bytealg.CountString", "internal/bytealg.IndexByteString", "internal/bytealg.IndexString", "internal/abi.NoEscape", "internal/bytealg.MakeNoZero"], unfollowed := true, recurses := true, named := ["math/bits.divideError", "math/bits.overflowError", "unicode/utf8.first", "unicode/utf8.acceptRanges", "internal/bytealg.MaxLen"], apart := false, laid := [("unicode/utf8.acceptRanges", laid_unicode_utf8_acceptRanges), ("unicode/utf8.first", laid_unicode_utf8_first)] }
def ProductRoundsSaid : Prop := productRoundsRow.holds Tryd.pinned (OpenSpec.ofChange productRoundsSpec)

/-- ITS FALSE NEIGHBOUR: 'it returns false'. Refute it at one input. -/
def productRoundsWrong : ChangeSpec := { name := "productRounds", fn := fun _ => fun
  | [d1, d2, d3] => { results := [.lit (.bool false)], args := [d1, d2, d3] }
  | _ => none }
def ProductRoundsWrongFalsely : Prop := productRoundsRow.holds Tryd.pinned (OpenSpec.ofChange productRoundsWrong)

/-- 'contangolaw09.ProductBack': WHATEVER THE INPUT: true; the input reads as it did. -/
def productBackSpec : ChangeSpec := { name := "productBack", fn := fun _ => fun
  | [d1, d2] => { results := [.lit (.bool true)], args := [d1, d2] }
  | _ => none }
def productBackRow : OpenClaim := { program := "ytieifncibojciaadoor", sum := "3ed59619ee7720b0973726299755d9840fb2bfc413beebf75099f8ca6519265a", func := "contango/contangolaw09.ProductBack", spec := "productBack", inPlace := ["internal/abi.NoEscape", "internal/bytealg.MakeNoZero", "internal/bytealg.CountString", "internal/bytealg.IndexByteString", "internal/bytealg.IndexString"], unfollowed := true, recurses := true, named := ["unicode/utf8.first", "unicode/utf8.acceptRanges", "internal/bytealg.MaxLen", "math/bits.divideError", "math/bits.overflowError"], apart := false, laid := [("unicode/utf8.acceptRanges", laid_unicode_utf8_acceptRanges), ("unicode/utf8.first", laid_unicode_utf8_first)] }
def ProductBackSaid : Prop := productBackRow.holds Tryd.pinned (OpenSpec.ofChange productBackSpec)

/-- ITS FALSE NEIGHBOUR: 'it returns false'. Refute it at one input. -/
def productBackWrong : ChangeSpec := { name := "productBack", fn := fun _ => fun
  | [d1, d2] => { results := [.lit (.bool false)], args := [d1, d2] }
  | _ => none }
def ProductBackWrongFalsely : Prop := productBackRow.holds Tryd.pinned (OpenSpec.ofChange productBackWrong)

/-- 'contangolaw10.SeriesChecks': WHATEVER THE INPUT: true; the input reads as it did. -/
def seriesChecksSpec : ChangeSpec := { name := "seriesChecks", fn := fun _ => fun
  | [d1, d2] => { results := [.lit (.bool true)], args := [d1, d2] }
  | _ => none }
def seriesChecksRow : OpenClaim := { program := "ytieifncibojciaadoor", sum := "3ed59619ee7720b0973726299755d9840fb2bfc413beebf75099f8ca6519265a", func := "contango/contangolaw10.SeriesChecks", spec := "seriesChecks", inPlace := ["internal/bytealg.CountString", "internal/bytealg.IndexByteString", "internal/bytealg.IndexString", "internal/abi.NoEscape", "internal/bytealg.MakeNoZero"], unfollowed := true, recurses := true, named := ["unicode/utf8.first", "unicode/utf8.acceptRanges", "internal/bytealg.MaxLen", "contango/date.long"], apart := false, laid := [("unicode/utf8.acceptRanges", laid_unicode_utf8_acceptRanges), ("contango/date.long", laid_contango_date_long), ("unicode/utf8.first", laid_unicode_utf8_first)] }
def SeriesChecksSaid : Prop := seriesChecksRow.holds Tryd.pinned (OpenSpec.ofChange seriesChecksSpec)

/-- ITS FALSE NEIGHBOUR: 'it returns false'. Refute it at one input. -/
def seriesChecksWrong : ChangeSpec := { name := "seriesChecks", fn := fun _ => fun
  | [d1, d2] => { results := [.lit (.bool false)], args := [d1, d2] }
  | _ => none }
def SeriesChecksWrongFalsely : Prop := seriesChecksRow.holds Tryd.pinned (OpenSpec.ofChange seriesChecksWrong)

/-- 'contangolaw09.ProductChecks': WHATEVER THE INPUT: true; the input reads as it did. -/
def productChecksSpec : ChangeSpec := { name := "productChecks", fn := fun _ => fun
  | [d1, d2, d3] => { results := [.lit (.bool true)], args := [d1, d2, d3] }
  | _ => none }
def productChecksRow : OpenClaim := { program := "ytieifncibojciaadoor", sum := "3ed59619ee7720b0973726299755d9840fb2bfc413beebf75099f8ca6519265a", func := "contango/contangolaw09.ProductChecks", spec := "productChecks", inPlace := ["internal/bytealg.CountString", "internal/bytealg.IndexByteString", "internal/bytealg.IndexString", "internal/abi.NoEscape", "internal/bytealg.MakeNoZero"], unfollowed := true, recurses := true, named := ["unicode/utf8.first", "unicode/utf8.acceptRanges", "internal/bytealg.MaxLen", "math/bits.divideError", "math/bits.overflowError"], apart := false, laid := [("unicode/utf8.acceptRanges", laid_unicode_utf8_acceptRanges), ("unicode/utf8.first", laid_unicode_utf8_first)] }
def ProductChecksSaid : Prop := productChecksRow.holds Tryd.pinned (OpenSpec.ofChange productChecksSpec)

/-- ITS FALSE NEIGHBOUR: 'it returns false'. Refute it at one input. -/
def productChecksWrong : ChangeSpec := { name := "productChecks", fn := fun _ => fun
  | [d1, d2, d3] => { results := [.lit (.bool false)], args := [d1, d2, d3] }
  | _ => none }
def ProductChecksWrongFalsely : Prop := productChecksRow.holds Tryd.pinned (OpenSpec.ofChange productChecksWrong)

/- THE SECOND FORM. 'bulk': how many values and letters a reading holds, each counted each time it is reached (what is shared counts as often as it is met; a slice's spare places count too). A statement '..UptoSaid' is the law's where the arguments, and the package variables that the reading takes, are together of bulk at most 1048576: NARROWER than '..Said'. Prove '..Said' where nothing that the law and all that it calls make is longer than what came in: it says more and counts as full. Else prove '..UptoSaid'. A law counts once. -/
mutual
def uptoBulk {H : Type} : DataW H → Nat
  | .lit (.string bytes) => bytes.length + 1
  | .lit _ => 1
  | .nil => 1
  | .ptr d => uptoBulk d + 1
  | .slice elems spare => uptoBulkAll elems + uptoBulkAll spare + 1
  | .agg parts => uptoBulkAll parts + 1
  | .iface _ d => uptoBulk d + 1
  | .map entries => uptoBulkEntries entries + 1
  | .held _ => 1
def uptoBulkAll {H : Type} : List (DataW H) → Nat
  | [] => 0
  | d :: r => uptoBulk d + uptoBulkAll r
def uptoBulkEntries {H : Type} : List (Lit × DataW H) → Nat
  | [] => 0
  | x :: r => uptoBulkEntry x + uptoBulkEntries r
def uptoBulkEntry {H : Type} : Lit × DataW H → Nat
  | (.string bytes, d) => bytes.length + uptoBulk d + 1
  | (_, d) => uptoBulk d + 1
 end
def uptoSmall : (H : Type) → List (DataW H) → Bool := fun _ ds => decide (uptoBulkAll ds ≤ 1048576)
def OpenSpec.upto (s : _root_.Go.ChangeSpec) : _root_.Go.OpenSpec := { _root_.Go.OpenSpec.ofChange s with cond := some uptoSmall }

/-- 'contangolaw10.SeriesTexts', WHERE WHAT IT READS IS OF BULK AT MOST 1048576: true; the input reads as it did. -/
def seriesTextsUptoRow : OpenClaim := { program := "ytieifncibojciaadoor", sum := "3ed59619ee7720b0973726299755d9840fb2bfc413beebf75099f8ca6519265a", func := "contango/contangolaw10.SeriesTexts", spec := "seriesTexts", inPlace := ["internal/bytealg.CountString", "internal/bytealg.IndexByteString", "internal/bytealg.IndexString", "internal/abi.NoEscape", "internal/bytealg.MakeNoZero"], unfollowed := true, recurses := true, named := ["unicode/utf8.first", "unicode/utf8.acceptRanges", "internal/bytealg.MaxLen", "contango/date.long"], apart := false, laid := [("unicode/utf8.acceptRanges", laid_unicode_utf8_acceptRanges), ("contango/date.long", laid_contango_date_long), ("unicode/utf8.first", laid_unicode_utf8_first)], narrowed := true }
def SeriesTextsUptoSaid : Prop := seriesTextsUptoRow.holds Tryd.pinned (OpenSpec.upto seriesTextsSpec)

/-- 'contangolaw10.SeriesBack', WHERE WHAT IT READS IS OF BULK AT MOST 1048576: true; the input reads as it did. -/
def seriesBackUptoRow : OpenClaim := { program := "ytieifncibojciaadoor", sum := "3ed59619ee7720b0973726299755d9840fb2bfc413beebf75099f8ca6519265a", func := "contango/contangolaw10.SeriesBack", spec := "seriesBack", inPlace := ["internal/bytealg.CountString", "internal/bytealg.IndexByteString", "internal/bytealg.IndexString", "internal/abi.NoEscape", "internal/bytealg.MakeNoZero"], unfollowed := true, recurses := true, named := ["unicode/utf8.first", "unicode/utf8.acceptRanges", "internal/bytealg.MaxLen", "contango/date.long"], apart := false, laid := [("unicode/utf8.acceptRanges", laid_unicode_utf8_acceptRanges), ("contango/date.long", laid_contango_date_long), ("unicode/utf8.first", laid_unicode_utf8_first)], narrowed := true }
def SeriesBackUptoSaid : Prop := seriesBackUptoRow.holds Tryd.pinned (OpenSpec.upto seriesBackSpec)

/-- 'contangolaw10.SeriesOrder', WHERE WHAT IT READS IS OF BULK AT MOST 1048576: true; the input reads as it did. -/
def seriesOrderUptoRow : OpenClaim := { program := "ytieifncibojciaadoor", sum := "3ed59619ee7720b0973726299755d9840fb2bfc413beebf75099f8ca6519265a", func := "contango/contangolaw10.SeriesOrder", spec := "seriesOrder", inPlace := ["internal/bytealg.CountString", "internal/bytealg.IndexByteString", "internal/bytealg.IndexString", "internal/abi.NoEscape", "internal/bytealg.MakeNoZero"], unfollowed := true, recurses := true, named := ["unicode/utf8.first", "unicode/utf8.acceptRanges", "internal/bytealg.MaxLen", "contango/date.long"], apart := false, laid := [("unicode/utf8.acceptRanges", laid_unicode_utf8_acceptRanges), ("contango/date.long", laid_contango_date_long), ("unicode/utf8.first", laid_unicode_utf8_first)], narrowed := true }
def SeriesOrderUptoSaid : Prop := seriesOrderUptoRow.holds Tryd.pinned (OpenSpec.upto seriesOrderSpec)

/-- 'contangolaw10.SeriesOnce', WHERE WHAT IT READS IS OF BULK AT MOST 1048576: true; the input reads as it did. -/
def seriesOnceUptoRow : OpenClaim := { program := "ytieifncibojciaadoor", sum := "3ed59619ee7720b0973726299755d9840fb2bfc413beebf75099f8ca6519265a", func := "contango/contangolaw10.SeriesOnce", spec := "seriesOnce", inPlace := ["internal/bytealg.CountString", "internal/bytealg.IndexByteString", "internal/bytealg.IndexString", "internal/abi.NoEscape", "internal/bytealg.MakeNoZero"], unfollowed := true, recurses := true, named := ["unicode/utf8.first", "unicode/utf8.acceptRanges", "internal/bytealg.MaxLen", "contango/date.long"], apart := false, laid := [("unicode/utf8.acceptRanges", laid_unicode_utf8_acceptRanges), ("contango/date.long", laid_contango_date_long), ("unicode/utf8.first", laid_unicode_utf8_first)], narrowed := true }
def SeriesOnceUptoSaid : Prop := seriesOnceUptoRow.holds Tryd.pinned (OpenSpec.upto seriesOnceSpec)

/-- 'contangolaw10.SeriesLists', WHERE WHAT IT READS IS OF BULK AT MOST 1048576: true; the input reads as it did. -/
def seriesListsUptoRow : OpenClaim := { program := "ytieifncibojciaadoor", sum := "3ed59619ee7720b0973726299755d9840fb2bfc413beebf75099f8ca6519265a", func := "contango/contangolaw10.SeriesLists", spec := "seriesLists", inPlace := ["internal/bytealg.CountString", "internal/bytealg.IndexByteString", "internal/bytealg.IndexString", "internal/abi.NoEscape", "internal/bytealg.MakeNoZero"], unfollowed := true, recurses := true, named := ["unicode/utf8.first", "unicode/utf8.acceptRanges", "internal/bytealg.MaxLen", "contango/date.long"], apart := false, laid := [("unicode/utf8.acceptRanges", laid_unicode_utf8_acceptRanges), ("contango/date.long", laid_contango_date_long), ("unicode/utf8.first", laid_unicode_utf8_first)], narrowed := true }
def SeriesListsUptoSaid : Prop := seriesListsUptoRow.holds Tryd.pinned (OpenSpec.upto seriesListsSpec)

/-- 'contangolaw09.ProductPrices', WHERE WHAT IT READS IS OF BULK AT MOST 1048576: true; the input reads as it did. -/
def productPricesUptoRow : OpenClaim := { program := "ytieifncibojciaadoor", sum := "3ed59619ee7720b0973726299755d9840fb2bfc413beebf75099f8ca6519265a", func := "contango/contangolaw09.ProductPrices", spec := "productPrices", inPlace := ["internal/bytealg.CountString", "internal/bytealg.IndexByteString", "internal/bytealg.IndexString", "internal/abi.NoEscape", "internal/bytealg.MakeNoZero"], unfollowed := true, recurses := true, named := ["math/bits.divideError", "math/bits.overflowError", "unicode/utf8.first", "unicode/utf8.acceptRanges", "internal/bytealg.MaxLen"], apart := false, laid := [("unicode/utf8.acceptRanges", laid_unicode_utf8_acceptRanges), ("unicode/utf8.first", laid_unicode_utf8_first)], narrowed := true }
def ProductPricesUptoSaid : Prop := productPricesUptoRow.holds Tryd.pinned (OpenSpec.upto productPricesSpec)

/-- 'contangolaw09.ProductTexts', WHERE WHAT IT READS IS OF BULK AT MOST 1048576: true; the input reads as it did. -/
def productTextsUptoRow : OpenClaim := { program := "ytieifncibojciaadoor", sum := "3ed59619ee7720b0973726299755d9840fb2bfc413beebf75099f8ca6519265a", func := "contango/contangolaw09.ProductTexts", spec := "productTexts", inPlace := ["internal/bytealg.CountString", "internal/bytealg.IndexByteString", "internal/bytealg.IndexString", "internal/abi.NoEscape", "internal/bytealg.MakeNoZero"], unfollowed := true, recurses := true, named := ["unicode/utf8.first", "unicode/utf8.acceptRanges", "internal/bytealg.MaxLen", "math/bits.divideError", "math/bits.overflowError"], apart := false, laid := [("unicode/utf8.acceptRanges", laid_unicode_utf8_acceptRanges), ("unicode/utf8.first", laid_unicode_utf8_first)], narrowed := true }
def ProductTextsUptoSaid : Prop := productTextsUptoRow.holds Tryd.pinned (OpenSpec.upto productTextsSpec)

/-- 'contangolaw09.ProductRounds', WHERE WHAT IT READS IS OF BULK AT MOST 1048576: true; the input reads as it did. -/
def productRoundsUptoRow : OpenClaim := { program := "ytieifncibojciaadoor", sum := "3ed59619ee7720b0973726299755d9840fb2bfc413beebf75099f8ca6519265a", func := "contango/contangolaw09.ProductRounds", spec := "productRounds", inPlace := ["internal/bytealg.CountString", "internal/bytealg.IndexByteString", "internal/bytealg.IndexString", "internal/abi.NoEscape", "internal/bytealg.MakeNoZero"], unfollowed := true, recurses := true, named := ["math/bits.divideError", "math/bits.overflowError", "unicode/utf8.first", "unicode/utf8.acceptRanges", "internal/bytealg.MaxLen"], apart := false, laid := [("unicode/utf8.acceptRanges", laid_unicode_utf8_acceptRanges), ("unicode/utf8.first", laid_unicode_utf8_first)], narrowed := true }
def ProductRoundsUptoSaid : Prop := productRoundsUptoRow.holds Tryd.pinned (OpenSpec.upto productRoundsSpec)

/-- 'contangolaw09.ProductBack', WHERE WHAT IT READS IS OF BULK AT MOST 1048576: true; the input reads as it did. -/
def productBackUptoRow : OpenClaim := { program := "ytieifncibojciaadoor", sum := "3ed59619ee7720b0973726299755d9840fb2bfc413beebf75099f8ca6519265a", func := "contango/contangolaw09.ProductBack", spec := "productBack", inPlace := ["internal/abi.NoEscape", "internal/bytealg.MakeNoZero", "internal/bytealg.CountString", "internal/bytealg.IndexByteString", "internal/bytealg.IndexString"], unfollowed := true, recurses := true, named := ["unicode/utf8.first", "unicode/utf8.acceptRanges", "internal/bytealg.MaxLen", "math/bits.divideError", "math/bits.overflowError"], apart := false, laid := [("unicode/utf8.acceptRanges", laid_unicode_utf8_acceptRanges), ("unicode/utf8.first", laid_unicode_utf8_first)], narrowed := true }
def ProductBackUptoSaid : Prop := productBackUptoRow.holds Tryd.pinned (OpenSpec.upto productBackSpec)

/-- 'contangolaw10.SeriesChecks', WHERE WHAT IT READS IS OF BULK AT MOST 1048576: true; the input reads as it did. -/
def seriesChecksUptoRow : OpenClaim := { program := "ytieifncibojciaadoor", sum := "3ed59619ee7720b0973726299755d9840fb2bfc413beebf75099f8ca6519265a", func := "contango/contangolaw10.SeriesChecks", spec := "seriesChecks", inPlace := ["internal/bytealg.CountString", "internal/bytealg.IndexByteString", "internal/bytealg.IndexString", "internal/abi.NoEscape", "internal/bytealg.MakeNoZero"], unfollowed := true, recurses := true, named := ["unicode/utf8.first", "unicode/utf8.acceptRanges", "internal/bytealg.MaxLen", "contango/date.long"], apart := false, laid := [("unicode/utf8.acceptRanges", laid_unicode_utf8_acceptRanges), ("contango/date.long", laid_contango_date_long), ("unicode/utf8.first", laid_unicode_utf8_first)], narrowed := true }
def SeriesChecksUptoSaid : Prop := seriesChecksUptoRow.holds Tryd.pinned (OpenSpec.upto seriesChecksSpec)

/-- 'contangolaw09.ProductChecks', WHERE WHAT IT READS IS OF BULK AT MOST 1048576: true; the input reads as it did. -/
def productChecksUptoRow : OpenClaim := { program := "ytieifncibojciaadoor", sum := "3ed59619ee7720b0973726299755d9840fb2bfc413beebf75099f8ca6519265a", func := "contango/contangolaw09.ProductChecks", spec := "productChecks", inPlace := ["internal/bytealg.CountString", "internal/bytealg.IndexByteString", "internal/bytealg.IndexString", "internal/abi.NoEscape", "internal/bytealg.MakeNoZero"], unfollowed := true, recurses := true, named := ["unicode/utf8.first", "unicode/utf8.acceptRanges", "internal/bytealg.MaxLen", "math/bits.divideError", "math/bits.overflowError"], apart := false, laid := [("unicode/utf8.acceptRanges", laid_unicode_utf8_acceptRanges), ("unicode/utf8.first", laid_unicode_utf8_first)], narrowed := true }
def ProductChecksUptoSaid : Prop := productChecksUptoRow.holds Tryd.pinned (OpenSpec.upto productChecksSpec)

end Rows
end Go.Proofs.YtieifncibojciaaDoor
