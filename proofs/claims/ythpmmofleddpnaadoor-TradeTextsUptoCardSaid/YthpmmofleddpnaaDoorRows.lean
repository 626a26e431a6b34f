/-
  NARROWER THAN 'FOR EVERY INPUT', by the rows' own cells (each row's printed sentence says how): TradeTexts: laid · TradeLists: laid · TradeBack: laid · TradeCounts: laid.
  DERIVED. THE GIVEN ROWS OF THIS SEAT. 4 by the template 'for every input the law returns true; each argument reads behind the call as it read before'; 0 by the template 'total and deterministic' (their statements: YthpmmofleddpnaaDoorTotals.lean).
  GIVEN WITH THE SEED: the statements are not yours to turn. If you find one false, say at which input.
  Laid BY PROGRAM, IN A SANDBOX (cutbox-rows.mjs): the forced cells as the released guide's own fill.sh prints them over the translation 643bc580efdb8c94… (all of the seat's roots in one cut). By AI agents, Wed Nov 11 2026. No macro, syntax, notation, axiom, sorry.
-/
import Derived.Test.YthpmmofleddpnaaDoorChecked
import GoSem.PinnedTables
import GoSem.Claim
import GoSem.ClaimJoined
import GoSem.ClaimMapViews
import Derived.JoinedTies
import Derived.KernelRfl
namespace Go.Proofs.YthpmmofleddpnaaDoor
/- THE CELL 'sum', in the pinned program and in every row, IS THE sha256 OF THE DUMP (.gsa) THAT YthpmmofleddpnaaDoorProg.lean LOADS. Nothing in Lean hashes anything: it is a label: what it is worth is what the hold of that sum in a sandbox is worth. -/
noncomputable def Tryd.pinned : Pinned := { name := "ythpmmofleddpnaadoor", sum := "643bc580efdb8c94ad2c08517b30e38e11a18353f71feb5f92f6118eca3b4f20", checked := Tryd.checked }
namespace Rows
def none {H : Type} : Left H := { results := [], args := [] }

/- WHAT THE LISTED PACKAGE-LEVEL VARIABLES READ AS WHEN THE CALL BEGINS. Each datum BY PROGRAM (the guide's laid-datum.mjs) off the statement by which the dump's own 'gosem.cut.vars' lays the variable. In a bare row this is a premise. The card (YthpmmofleddpnaaDoorCards.lean) ties it to the program's text. -/
def laid_unicode_utf8_acceptRanges {H : Type} : DataW H := .agg [.agg [.lit (.int .u8 128), .lit (.int .u8 191)], .agg [.lit (.int .u8 160), .lit (.int .u8 191)], .agg [.lit (.int .u8 128), .lit (.int .u8 159)], .agg [.lit (.int .u8 144), .lit (.int .u8 191)], .agg [.lit (.int .u8 128), .lit (.int .u8 143)], .agg [.lit (.int .u8 0), .lit (.int .u8 0)], .agg [.lit (.int .u8 0), .lit (.int .u8 0)], .agg [.lit (.int .u8 0), .lit (.int .u8 0)], .agg [.lit (.int .u8 0), .lit (.int .u8 0)], .agg [.lit (.int .u8 0), .lit (.int .u8 0)], .agg [.lit (.int .u8 0), .lit (.int .u8 0)], .agg [.lit (.int .u8 0), .lit (.int .u8 0)], .agg [.lit (.int .u8 0), .lit (.int .u8 0)], .agg [.lit (.int .u8 0), .lit (.int .u8 0)], .agg [.lit (.int .u8 0), .lit (.int .u8 0)], .agg [.lit (.int .u8 0), .lit (.int .u8 0)]]
def laid_contango_date_long {H : Type} : DataW H := .agg [.lit (.int .i64 0), .lit (.int .i64 31), .lit (.int .i64 28), .lit (.int .i64 31), .lit (.int .i64 30), .lit (.int .i64 31), .lit (.int .i64 30), .lit (.int .i64 31), .lit (.int .i64 31), .lit (.int .i64 30), .lit (.int .i64 31), .lit (.int .i64 30), .lit (.int .i64 31)]
/-- One of Go's own tables, pinned by name: the form's constant. -/
def laid_unicode_utf8_first : DataW Unit := Go.Pinned.utf8First

/-- 'contangolaw12.TradeTexts': WHATEVER THE INPUT: true; the input reads as it did. -/
def tradeTextsSpec : ChangeSpec := { name := "tradeTexts", fn := fun _ => fun
  | [d1, d2] => { results := [.lit (.bool true)], args := [d1, d2] }
  | _ => none }
def tradeTextsRow : OpenClaim := { program := "ythpmmofleddpnaadoor", sum := "643bc580efdb8c94ad2c08517b30e38e11a18353f71feb5f92f6118eca3b4f20", func := "contango/contangolaw12.TradeTexts", spec := "tradeTexts", inPlace := ["internal/bytealg.CountString", "internal/bytealg.IndexByteString", "internal/bytealg.IndexString", "internal/abi.NoEscape", "internal/bytealg.MakeNoZero"], unfollowed := true, recurses := true, named := ["unicode/utf8.first", "unicode/utf8.acceptRanges", "internal/bytealg.MaxLen", "contango/date.long"], apart := false, laid := [("unicode/utf8.acceptRanges", laid_unicode_utf8_acceptRanges), ("contango/date.long", laid_contango_date_long), ("unicode/utf8.first", laid_unicode_utf8_first)] }
def TradeTextsSaid : Prop := tradeTextsRow.holds Tryd.pinned (OpenSpec.ofChange tradeTextsSpec)

/-- ITS FALSE NEIGHBOUR: 'it returns false'. Refute it at one input. -/
def tradeTextsWrong : ChangeSpec := { name := "tradeTexts", fn := fun _ => fun
  | [d1, d2] => { results := [.lit (.bool false)], args := [d1, d2] }
  | _ => none }
def TradeTextsWrongFalsely : Prop := tradeTextsRow.holds Tryd.pinned (OpenSpec.ofChange tradeTextsWrong)

/-- 'contangolaw12.TradeLists': WHATEVER THE INPUT: true; the input reads as it did. -/
def tradeListsSpec : ChangeSpec := { name := "tradeLists", fn := fun _ => fun
  | [d1, d2, d3] => { results := [.lit (.bool true)], args := [d1, d2, d3] }
  | _ => none }
def tradeListsRow : OpenClaim := { program := "ythpmmofleddpnaadoor", sum := "643bc580efdb8c94ad2c08517b30e38e11a18353f71feb5f92f6118eca3b4f20", func := "contango/contangolaw12.TradeLists", spec := "tradeLists", inPlace := ["internal/bytealg.CountString", "internal/bytealg.IndexByteString", "internal/bytealg.IndexString", "internal/abi.NoEscape", "internal/bytealg.MakeNoZero"], unfollowed := true, recurses := true, named := ["unicode/utf8.first", "unicode/utf8.acceptRanges", "internal/bytealg.MaxLen", "contango/date.long"], apart := false, laid := [("unicode/utf8.acceptRanges", laid_unicode_utf8_acceptRanges), ("contango/date.long", laid_contango_date_long), ("unicode/utf8.first", laid_unicode_utf8_first)] }
def TradeListsSaid : Prop := tradeListsRow.holds Tryd.pinned (OpenSpec.ofChange tradeListsSpec)

/-- ITS FALSE NEIGHBOUR: 'it returns false'. Refute it at one input. -/
def tradeListsWrong : ChangeSpec := { name := "tradeLists", fn := fun _ => fun
  | [d1, d2, d3] => { results := [.lit (.bool false)], args := [d1, d2, d3] }
  | _ => none }
def TradeListsWrongFalsely : Prop := tradeListsRow.holds Tryd.pinned (OpenSpec.ofChange tradeListsWrong)

/-- 'contangolaw12.TradeBack': WHATEVER THE INPUT: true; the input reads as it did. -/
def tradeBackSpec : ChangeSpec := { name := "tradeBack", fn := fun _ => fun
  | [d1, d2, d3] => { results := [.lit (.bool true)], args := [d1, d2, d3] }
  | _ => none }
def tradeBackRow : OpenClaim := { program := "ythpmmofleddpnaadoor", sum := "643bc580efdb8c94ad2c08517b30e38e11a18353f71feb5f92f6118eca3b4f20", func := "contango/contangolaw12.TradeBack", spec := "tradeBack", inPlace := ["internal/bytealg.CountString", "internal/bytealg.IndexByteString", "internal/bytealg.IndexString", "internal/abi.NoEscape", "internal/bytealg.MakeNoZero"], unfollowed := true, recurses := true, named := ["unicode/utf8.first", "unicode/utf8.acceptRanges", "internal/bytealg.MaxLen", "contango/date.long"], apart := false, laid := [("unicode/utf8.acceptRanges", laid_unicode_utf8_acceptRanges), ("contango/date.long", laid_contango_date_long), ("unicode/utf8.first", laid_unicode_utf8_first)] }
def TradeBackSaid : Prop := tradeBackRow.holds Tryd.pinned (OpenSpec.ofChange tradeBackSpec)

/-- ITS FALSE NEIGHBOUR: 'it returns false'. Refute it at one input. -/
def tradeBackWrong : ChangeSpec := { name := "tradeBack", fn := fun _ => fun
  | [d1, d2, d3] => { results := [.lit (.bool false)], args := [d1, d2, d3] }
  | _ => none }
def TradeBackWrongFalsely : Prop := tradeBackRow.holds Tryd.pinned (OpenSpec.ofChange tradeBackWrong)

/-- 'contangolaw12.TradeCounts': WHATEVER THE INPUT: true; the input reads as it did. -/
def tradeCountsSpec : ChangeSpec := { name := "tradeCounts", fn := fun _ => fun
  | [d1, d2, d3] => { results := [.lit (.bool true)], args := [d1, d2, d3] }
  | _ => none }
def tradeCountsRow : OpenClaim := { program := "ythpmmofleddpnaadoor", sum := "643bc580efdb8c94ad2c08517b30e38e11a18353f71feb5f92f6118eca3b4f20", func := "contango/contangolaw12.TradeCounts", spec := "tradeCounts", inPlace := ["internal/bytealg.CountString", "internal/bytealg.IndexByteString", "internal/bytealg.IndexString", "internal/abi.NoEscape", "internal/bytealg.MakeNoZero"], unfollowed := true, recurses := true, named := ["unicode/utf8.first", "unicode/utf8.acceptRanges", "internal/bytealg.MaxLen", "contango/date.long"], apart := false, laid := [("unicode/utf8.acceptRanges", laid_unicode_utf8_acceptRanges), ("contango/date.long", laid_contango_date_long), ("unicode/utf8.first", laid_unicode_utf8_first)] }
def TradeCountsSaid : Prop := tradeCountsRow.holds Tryd.pinned (OpenSpec.ofChange tradeCountsSpec)

/-- ITS FALSE NEIGHBOUR: 'it returns false'. Refute it at one input. -/
def tradeCountsWrong : ChangeSpec := { name := "tradeCounts", fn := fun _ => fun
  | [d1, d2, d3] => { results := [.lit (.bool false)], args := [d1, d2, d3] }
  | _ => none }
def TradeCountsWrongFalsely : Prop := tradeCountsRow.holds Tryd.pinned (OpenSpec.ofChange tradeCountsWrong)

/- THE SECOND FORM. 'bulk': how many values and letters a reading holds, each counted each time it is reached (what is shared counts as often as it is met; a slice's spare places count too). A statement '..UptoSaid' is the law's where the arguments, and the package variables that the reading takes, are together of bulk at most 1048576: NARROWER than '..Said'. Prove '..Said' where nothing that the law and all that it calls make is longer than what came in: it says more and counts as full. Else prove '..UptoSaid'. A law counts once. -/
mutual
def uptoBulk {H : Type} : DataW H → Nat
  | .lit (.string bytes) => bytes.length + 1
  | .lit _ => 1
  | .nil => 1
  | .ptr d => uptoBulk d + 1
  | .slice elems spare => uptoBulkAll elems + uptoBulkAll spare + 1
  | .agg parts => uptoBulkAll parts + 1
  | .iface _ d => uptoBulk d + 1
  | .map entries => uptoBulkEntries entries + 1
  | .held _ => 1
def uptoBulkAll {H : Type} : List (DataW H) → Nat
  | [] => 0
  | d :: r => uptoBulk d + uptoBulkAll r
def uptoBulkEntries {H : Type} : List (Lit × DataW H) → Nat
  | [] => 0
  | x :: r => uptoBulkEntry x + uptoBulkEntries r
def uptoBulkEntry {H : Type} : Lit × DataW H → Nat
  | (.string bytes, d) => bytes.length + uptoBulk d + 1
  | (_, d) => uptoBulk d + 1
 end
def uptoSmall : (H : Type) → List (DataW H) → Bool := fun _ ds => decide (uptoBulkAll ds ≤ 1048576)
def OpenSpec.upto (s : _root_.Go.ChangeSpec) : _root_.Go.OpenSpec := { _root_.Go.OpenSpec.ofChange s with cond := some uptoSmall }

/-- 'contangolaw12.TradeTexts', WHERE WHAT IT READS IS OF BULK AT MOST 1048576: true; the input reads as it did. -/
def tradeTextsUptoRow : OpenClaim := { program := "ythpmmofleddpnaadoor", sum := "643bc580efdb8c94ad2c08517b30e38e11a18353f71feb5f92f6118eca3b4f20", func := "contango/contangolaw12.TradeTexts", spec := "tradeTexts", inPlace := ["internal/bytealg.CountString", "internal/bytealg.IndexByteString", "internal/bytealg.IndexString", "internal/abi.NoEscape", "internal/bytealg.MakeNoZero"], unfollowed := true, recurses := true, named := ["unicode/utf8.first", "unicode/utf8.acceptRanges", "internal/bytealg.MaxLen", "contango/date.long"], apart := false, laid := [("unicode/utf8.acceptRanges", laid_unicode_utf8_acceptRanges), ("contango/date.long", laid_contango_date_long), ("unicode/utf8.first", laid_unicode_utf8_first)], narrowed := true }
def TradeTextsUptoSaid : Prop := tradeTextsUptoRow.holds Tryd.pinned (OpenSpec.upto tradeTextsSpec)

/-- 'contangolaw12.TradeLists', WHERE WHAT IT READS IS OF BULK AT MOST 1048576: true; the input reads as it did. -/
def tradeListsUptoRow : OpenClaim := { program := "ythpmmofleddpnaadoor", sum := "643bc580efdb8c94ad2c08517b30e38e11a18353f71feb5f92f6118eca3b4f20", func := "contango/contangolaw12.TradeLists", spec := "tradeLists", inPlace := ["internal/bytealg.CountString", "internal/bytealg.IndexByteString", "internal/bytealg.IndexString", "internal/abi.NoEscape", "internal/bytealg.MakeNoZero"], unfollowed := true, recurses := true, named := ["unicode/utf8.first", "unicode/utf8.acceptRanges", "internal/bytealg.MaxLen", "contango/date.long"], apart := false, laid := [("unicode/utf8.acceptRanges", laid_unicode_utf8_acceptRanges), ("contango/date.long", laid_contango_date_long), ("unicode/utf8.first", laid_unicode_utf8_first)], narrowed := true }
def TradeListsUptoSaid : Prop := tradeListsUptoRow.holds Tryd.pinned (OpenSpec.upto tradeListsSpec)

/-- 'contangolaw12.TradeBack', WHERE WHAT IT READS IS OF BULK AT MOST 1048576: true; the input reads as it did. -/
def tradeBackUptoRow : OpenClaim := { program := "ythpmmofleddpnaadoor", sum := "643bc580efdb8c94ad2c08517b30e38e11a18353f71feb5f92f6118eca3b4f20", func := "contango/contangolaw12.TradeBack", spec := "tradeBack", inPlace := ["internal/bytealg.CountString", "internal/bytealg.IndexByteString", "internal/bytealg.IndexString", "internal/abi.NoEscape", "internal/bytealg.MakeNoZero"], unfollowed := true, recurses := true, named := ["unicode/utf8.first", "unicode/utf8.acceptRanges", "internal/bytealg.MaxLen", "contango/date.long"], apart := false, laid := [("unicode/utf8.acceptRanges", laid_unicode_utf8_acceptRanges), ("contango/date.long", laid_contango_date_long), ("unicode/utf8.first", laid_unicode_utf8_first)], narrowed := true }
def TradeBackUptoSaid : Prop := tradeBackUptoRow.holds Tryd.pinned (OpenSpec.upto tradeBackSpec)

/-- 'contangolaw12.TradeCounts', WHERE WHAT IT READS IS OF BULK AT MOST 1048576: true; the input reads as it did. -/
def tradeCountsUptoRow : OpenClaim := { program := "ythpmmofleddpnaadoor", sum := "643bc580efdb8c94ad2c08517b30e38e11a18353f71feb5f92f6118eca3b4f20", func := "contango/contangolaw12.TradeCounts", spec := "tradeCounts", inPlace := ["internal/bytealg.CountString", "internal/bytealg.IndexByteString", "internal/bytealg.IndexString", "internal/abi.NoEscape", "internal/bytealg.MakeNoZero"], unfollowed := true, recurses := true, named := ["unicode/utf8.first", "unicode/utf8.acceptRanges", "internal/bytealg.MaxLen", "contango/date.long"], apart := false, laid := [("unicode/utf8.acceptRanges", laid_unicode_utf8_acceptRanges), ("contango/date.long", laid_contango_date_long), ("unicode/utf8.first", laid_unicode_utf8_first)], narrowed := true }
def TradeCountsUptoSaid : Prop := tradeCountsUptoRow.holds Tryd.pinned (OpenSpec.upto tradeCountsSpec)

end Rows
end Go.Proofs.YthpmmofleddpnaaDoor
