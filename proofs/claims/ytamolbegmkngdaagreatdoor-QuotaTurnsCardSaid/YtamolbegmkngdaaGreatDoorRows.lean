/-
  NARROWER THAN 'FOR EVERY INPUT', by the rows' own cells (each row's printed sentence says how): DigestTrees: laid · QuotaMore: laid · TreeMakes: laid · QuotaExceeds: laid · DigestRuns: laid · QuotaGrowth: laid · TreePlays: laid · TreeNils: laid · QuotaTurns: laid.
  DERIVED. THE GIVEN ROWS OF THIS SEAT. 9 by the template 'for every input the law returns true; each argument reads behind the call as it read before'; 0 by the template 'total and deterministic' (their statements: YtamolbegmkngdaaGreatDoorTotals.lean).
  GIVEN WITH THE SEED: the statements are not yours to turn. If you find one false, say at which input.
  Laid BY PROGRAM, IN A SANDBOX (cutbox-rows.mjs): the forced cells as the released guide's own fill.sh prints them over the translation ca616ca0cb81a03e… (all of the seat's roots in one cut). By AI agents, Wed Nov 11 2026. No macro, syntax, notation, axiom, sorry.
-/
import Derived.Test.YtamolbegmkngdaaGreatDoorChecked
import GoSem.PinnedTables
import GoSem.Claim
import GoSem.ClaimJoined
import GoSem.ClaimMapViews
import Derived.JoinedTies
import Derived.KernelRfl
namespace Go.Proofs.YtamolbegmkngdaaGreatDoor
/- THE CELL 'sum', in the pinned program and in every row, IS THE sha256 OF THE DUMP (.gsa) THAT YtamolbegmkngdaaGreatDoorProg.lean LOADS. Nothing in Lean hashes anything: it is a label: what it is worth is what the hold of that sum in a sandbox is worth. -/
noncomputable def Tryz.pinned : Pinned := { name := "ytamolbegmkngdaagreatdoor", sum := "ca616ca0cb81a03e9bf0905da4a655d058d37f7bee4db0e6a009bf2d8fd2fe8d", checked := Tryz.checked }
namespace Rows
def none {H : Type} : Left H := { results := [], args := [] }

/- WHAT THE LISTED PACKAGE-LEVEL VARIABLES READ AS WHEN THE CALL BEGINS. Each datum BY PROGRAM (the guide's laid-datum.mjs) off the statement by which the dump's own 'gosem.cut.vars' lays the variable. In a bare row this is a premise. The card (YtamolbegmkngdaaGreatDoorCards.lean) ties it to the program's text. -/
def laid_unicode_utf8_acceptRanges {H : Type} : DataW H := .agg [.agg [.lit (.int .u8 128), .lit (.int .u8 191)], .agg [.lit (.int .u8 160), .lit (.int .u8 191)], .agg [.lit (.int .u8 128), .lit (.int .u8 159)], .agg [.lit (.int .u8 144), .lit (.int .u8 191)], .agg [.lit (.int .u8 128), .lit (.int .u8 143)], .agg [.lit (.int .u8 0), .lit (.int .u8 0)], .agg [.lit (.int .u8 0), .lit (.int .u8 0)], .agg [.lit (.int .u8 0), .lit (.int .u8 0)], .agg [.lit (.int .u8 0), .lit (.int .u8 0)], .agg [.lit (.int .u8 0), .lit (.int .u8 0)], .agg [.lit (.int .u8 0), .lit (.int .u8 0)], .agg [.lit (.int .u8 0), .lit (.int .u8 0)], .agg [.lit (.int .u8 0), .lit (.int .u8 0)], .agg [.lit (.int .u8 0), .lit (.int .u8 0)], .agg [.lit (.int .u8 0), .lit (.int .u8 0)], .agg [.lit (.int .u8 0), .lit (.int .u8 0)]]
/-- One of Go's own tables, pinned by name: the form's constant. -/
def laid_unicode_utf8_first : DataW Unit := Go.Pinned.utf8First

/-- 'arborlaw09.DigestTrees': WHATEVER THE INPUT: true; the input reads as it did. -/
def digestTreesSpec : ChangeSpec := { name := "digestTrees", fn := fun _ => fun
  | [d] => { results := [.lit (.bool true)], args := [d] }
  | _ => none }
def digestTreesRow : OpenClaim := { program := "ytamolbegmkngdaagreatdoor", sum := "ca616ca0cb81a03e9bf0905da4a655d058d37f7bee4db0e6a009bf2d8fd2fe8d", func := "arbor/arborlaw09.DigestTrees", spec := "digestTrees", inPlace := ["internal/bytealg.IndexByteString", "internal/bytealg.IndexString"], unfollowed := true, recurses := true, named := ["internal/bytealg.MaxLen", "unicode/utf8.first", "unicode/utf8.acceptRanges"], apart := false, laid := [("unicode/utf8.acceptRanges", laid_unicode_utf8_acceptRanges), ("unicode/utf8.first", laid_unicode_utf8_first)] }
def DigestTreesSaid : Prop := digestTreesRow.holds Tryz.pinned (OpenSpec.ofChange digestTreesSpec)

/-- ITS FALSE NEIGHBOUR: 'it returns false'. Refute it at one input. -/
def digestTreesWrong : ChangeSpec := { name := "digestTrees", fn := fun _ => fun
  | [d] => { results := [.lit (.bool false)], args := [d] }
  | _ => none }
def DigestTreesWrongFalsely : Prop := digestTreesRow.holds Tryz.pinned (OpenSpec.ofChange digestTreesWrong)

/-- 'arborlaw10.QuotaMore': WHATEVER THE INPUT: true; the input reads as it did. -/
def quotaMoreSpec : ChangeSpec := { name := "quotaMore", fn := fun _ => fun
  | [d1, d2, d3, d4, d5, d6] => { results := [.lit (.bool true)], args := [d1, d2, d3, d4, d5, d6] }
  | _ => none }
def quotaMoreRow : OpenClaim := { program := "ytamolbegmkngdaagreatdoor", sum := "ca616ca0cb81a03e9bf0905da4a655d058d37f7bee4db0e6a009bf2d8fd2fe8d", func := "arbor/arborlaw10.QuotaMore", spec := "quotaMore", inPlace := ["internal/bytealg.IndexByteString", "internal/bytealg.IndexString"], unfollowed := true, recurses := true, named := ["internal/bytealg.MaxLen", "unicode/utf8.first", "unicode/utf8.acceptRanges"], apart := false, laid := [("unicode/utf8.acceptRanges", laid_unicode_utf8_acceptRanges), ("unicode/utf8.first", laid_unicode_utf8_first)] }
def QuotaMoreSaid : Prop := quotaMoreRow.holds Tryz.pinned (OpenSpec.ofChange quotaMoreSpec)

/-- ITS FALSE NEIGHBOUR: 'it returns false'. Refute it at one input. -/
def quotaMoreWrong : ChangeSpec := { name := "quotaMore", fn := fun _ => fun
  | [d1, d2, d3, d4, d5, d6] => { results := [.lit (.bool false)], args := [d1, d2, d3, d4, d5, d6] }
  | _ => none }
def QuotaMoreWrongFalsely : Prop := quotaMoreRow.holds Tryz.pinned (OpenSpec.ofChange quotaMoreWrong)

/-- 'arborlaw07.TreeMakes': WHATEVER THE INPUT: true; the input reads as it did. -/
def treeMakesSpec : ChangeSpec := { name := "treeMakes", fn := fun _ => fun
  | [d1, d2] => { results := [.lit (.bool true)], args := [d1, d2] }
  | _ => none }
def treeMakesRow : OpenClaim := { program := "ytamolbegmkngdaagreatdoor", sum := "ca616ca0cb81a03e9bf0905da4a655d058d37f7bee4db0e6a009bf2d8fd2fe8d", func := "arbor/arborlaw07.TreeMakes", spec := "treeMakes", inPlace := ["internal/bytealg.IndexByteString", "internal/bytealg.IndexString"], unfollowed := true, recurses := true, named := ["internal/bytealg.MaxLen", "unicode/utf8.first", "unicode/utf8.acceptRanges"], apart := false, laid := [("unicode/utf8.acceptRanges", laid_unicode_utf8_acceptRanges), ("unicode/utf8.first", laid_unicode_utf8_first)] }
def TreeMakesSaid : Prop := treeMakesRow.holds Tryz.pinned (OpenSpec.ofChange treeMakesSpec)

/-- ITS FALSE NEIGHBOUR: 'it returns false'. Refute it at one input. -/
def treeMakesWrong : ChangeSpec := { name := "treeMakes", fn := fun _ => fun
  | [d1, d2] => { results := [.lit (.bool false)], args := [d1, d2] }
  | _ => none }
def TreeMakesWrongFalsely : Prop := treeMakesRow.holds Tryz.pinned (OpenSpec.ofChange treeMakesWrong)

/-- 'arborlaw10.QuotaExceeds': WHATEVER THE INPUT: true; the input reads as it did. -/
def quotaExceedsSpec : ChangeSpec := { name := "quotaExceeds", fn := fun _ => fun
  | [d1, d2, d3, d4] => { results := [.lit (.bool true)], args := [d1, d2, d3, d4] }
  | _ => none }
def quotaExceedsRow : OpenClaim := { program := "ytamolbegmkngdaagreatdoor", sum := "ca616ca0cb81a03e9bf0905da4a655d058d37f7bee4db0e6a009bf2d8fd2fe8d", func := "arbor/arborlaw10.QuotaExceeds", spec := "quotaExceeds", inPlace := ["internal/bytealg.IndexByteString", "internal/bytealg.IndexString"], unfollowed := true, recurses := true, named := ["internal/bytealg.MaxLen", "unicode/utf8.first", "unicode/utf8.acceptRanges"], apart := false, laid := [("unicode/utf8.acceptRanges", laid_unicode_utf8_acceptRanges), ("unicode/utf8.first", laid_unicode_utf8_first)] }
def QuotaExceedsSaid : Prop := quotaExceedsRow.holds Tryz.pinned (OpenSpec.ofChange quotaExceedsSpec)

/-- ITS FALSE NEIGHBOUR: 'it returns false'. Refute it at one input. -/
def quotaExceedsWrong : ChangeSpec := { name := "quotaExceeds", fn := fun _ => fun
  | [d1, d2, d3, d4] => { results := [.lit (.bool false)], args := [d1, d2, d3, d4] }
  | _ => none }
def QuotaExceedsWrongFalsely : Prop := quotaExceedsRow.holds Tryz.pinned (OpenSpec.ofChange quotaExceedsWrong)

/-- 'arborlaw09.DigestRuns': WHATEVER THE INPUT: true; the input reads as it did. -/
def digestRunsSpec : ChangeSpec := { name := "digestRuns", fn := fun _ => fun
  | [d1, d2, d3] => { results := [.lit (.bool true)], args := [d1, d2, d3] }
  | _ => none }
def digestRunsRow : OpenClaim := { program := "ytamolbegmkngdaagreatdoor", sum := "ca616ca0cb81a03e9bf0905da4a655d058d37f7bee4db0e6a009bf2d8fd2fe8d", func := "arbor/arborlaw09.DigestRuns", spec := "digestRuns", inPlace := ["internal/bytealg.IndexByteString", "internal/bytealg.IndexString"], unfollowed := true, recurses := true, named := ["internal/bytealg.MaxLen", "unicode/utf8.first", "unicode/utf8.acceptRanges"], apart := false, laid := [("unicode/utf8.acceptRanges", laid_unicode_utf8_acceptRanges), ("unicode/utf8.first", laid_unicode_utf8_first)] }
def DigestRunsSaid : Prop := digestRunsRow.holds Tryz.pinned (OpenSpec.ofChange digestRunsSpec)

/-- ITS FALSE NEIGHBOUR: 'it returns false'. Refute it at one input. -/
def digestRunsWrong : ChangeSpec := { name := "digestRuns", fn := fun _ => fun
  | [d1, d2, d3] => { results := [.lit (.bool false)], args := [d1, d2, d3] }
  | _ => none }
def DigestRunsWrongFalsely : Prop := digestRunsRow.holds Tryz.pinned (OpenSpec.ofChange digestRunsWrong)

/-- 'arborlaw10.QuotaGrowth': WHATEVER THE INPUT: true; the input reads as it did. -/
def quotaGrowthSpec : ChangeSpec := { name := "quotaGrowth", fn := fun _ => fun
  | [d1, d2] => { results := [.lit (.bool true)], args := [d1, d2] }
  | _ => none }
def quotaGrowthRow : OpenClaim := { program := "ytamolbegmkngdaagreatdoor", sum := "ca616ca0cb81a03e9bf0905da4a655d058d37f7bee4db0e6a009bf2d8fd2fe8d", func := "arbor/arborlaw10.QuotaGrowth", spec := "quotaGrowth", inPlace := ["internal/bytealg.IndexByteString", "internal/bytealg.IndexString"], unfollowed := true, recurses := true, named := ["internal/bytealg.MaxLen", "unicode/utf8.first", "unicode/utf8.acceptRanges"], apart := false, laid := [("unicode/utf8.acceptRanges", laid_unicode_utf8_acceptRanges), ("unicode/utf8.first", laid_unicode_utf8_first)] }
def QuotaGrowthSaid : Prop := quotaGrowthRow.holds Tryz.pinned (OpenSpec.ofChange quotaGrowthSpec)

/-- ITS FALSE NEIGHBOUR: 'it returns false'. Refute it at one input. -/
def quotaGrowthWrong : ChangeSpec := { name := "quotaGrowth", fn := fun _ => fun
  | [d1, d2] => { results := [.lit (.bool false)], args := [d1, d2] }
  | _ => none }
def QuotaGrowthWrongFalsely : Prop := quotaGrowthRow.holds Tryz.pinned (OpenSpec.ofChange quotaGrowthWrong)

/-- 'arborlaw07.TreePlays': WHATEVER THE INPUT: true; the input reads as it did. -/
def treePlaysSpec : ChangeSpec := { name := "treePlays", fn := fun _ => fun
  | [d1, d2, d3] => { results := [.lit (.bool true)], args := [d1, d2, d3] }
  | _ => none }
def treePlaysRow : OpenClaim := { program := "ytamolbegmkngdaagreatdoor", sum := "ca616ca0cb81a03e9bf0905da4a655d058d37f7bee4db0e6a009bf2d8fd2fe8d", func := "arbor/arborlaw07.TreePlays", spec := "treePlays", inPlace := ["internal/bytealg.IndexByteString", "internal/bytealg.IndexString"], unfollowed := true, recurses := true, named := ["internal/bytealg.MaxLen", "unicode/utf8.first", "unicode/utf8.acceptRanges"], apart := false, laid := [("unicode/utf8.acceptRanges", laid_unicode_utf8_acceptRanges), ("unicode/utf8.first", laid_unicode_utf8_first)] }
def TreePlaysSaid : Prop := treePlaysRow.holds Tryz.pinned (OpenSpec.ofChange treePlaysSpec)

/-- ITS FALSE NEIGHBOUR: 'it returns false'. Refute it at one input. -/
def treePlaysWrong : ChangeSpec := { name := "treePlays", fn := fun _ => fun
  | [d1, d2, d3] => { results := [.lit (.bool false)], args := [d1, d2, d3] }
  | _ => none }
def TreePlaysWrongFalsely : Prop := treePlaysRow.holds Tryz.pinned (OpenSpec.ofChange treePlaysWrong)

/-- 'arborlaw07.TreeNils': WHATEVER THE INPUT: true; the input reads as it did. -/
def treeNilsSpec : ChangeSpec := { name := "treeNils", fn := fun _ => fun
  | [d1, d2, d3] => { results := [.lit (.bool true)], args := [d1, d2, d3] }
  | _ => none }
def treeNilsRow : OpenClaim := { program := "ytamolbegmkngdaagreatdoor", sum := "ca616ca0cb81a03e9bf0905da4a655d058d37f7bee4db0e6a009bf2d8fd2fe8d", func := "arbor/arborlaw07.TreeNils", spec := "treeNils", inPlace := ["internal/bytealg.IndexByteString", "internal/bytealg.IndexString"], unfollowed := true, recurses := true, named := ["internal/bytealg.MaxLen", "unicode/utf8.first", "unicode/utf8.acceptRanges"], apart := false, laid := [("unicode/utf8.acceptRanges", laid_unicode_utf8_acceptRanges), ("unicode/utf8.first", laid_unicode_utf8_first)] }
def TreeNilsSaid : Prop := treeNilsRow.holds Tryz.pinned (OpenSpec.ofChange treeNilsSpec)

/-- ITS FALSE NEIGHBOUR: 'it returns false'. Refute it at one input. -/
def treeNilsWrong : ChangeSpec := { name := "treeNils", fn := fun _ => fun
  | [d1, d2, d3] => { results := [.lit (.bool false)], args := [d1, d2, d3] }
  | _ => none }
def TreeNilsWrongFalsely : Prop := treeNilsRow.holds Tryz.pinned (OpenSpec.ofChange treeNilsWrong)

/-- 'arborlaw10.QuotaTurns': WHATEVER THE INPUT: true; the input reads as it did. -/
def quotaTurnsSpec : ChangeSpec := { name := "quotaTurns", fn := fun _ => fun
  | [d1, d2, d3] => { results := [.lit (.bool true)], args := [d1, d2, d3] }
  | _ => none }
def quotaTurnsRow : OpenClaim := { program := "ytamolbegmkngdaagreatdoor", sum := "ca616ca0cb81a03e9bf0905da4a655d058d37f7bee4db0e6a009bf2d8fd2fe8d", func := "arbor/arborlaw10.QuotaTurns", spec := "quotaTurns", inPlace := ["internal/bytealg.IndexByteString", "internal/bytealg.IndexString"], unfollowed := true, recurses := true, named := ["internal/bytealg.MaxLen", "unicode/utf8.first", "unicode/utf8.acceptRanges"], apart := false, laid := [("unicode/utf8.acceptRanges", laid_unicode_utf8_acceptRanges), ("unicode/utf8.first", laid_unicode_utf8_first)] }
def QuotaTurnsSaid : Prop := quotaTurnsRow.holds Tryz.pinned (OpenSpec.ofChange quotaTurnsSpec)

/-- ITS FALSE NEIGHBOUR: 'it returns false'. Refute it at one input. -/
def quotaTurnsWrong : ChangeSpec := { name := "quotaTurns", fn := fun _ => fun
  | [d1, d2, d3] => { results := [.lit (.bool false)], args := [d1, d2, d3] }
  | _ => none }
def QuotaTurnsWrongFalsely : Prop := quotaTurnsRow.holds Tryz.pinned (OpenSpec.ofChange quotaTurnsWrong)

/- THE SECOND FORM. 'bulk': how many values and letters a reading holds, each counted each time it is reached (what is shared counts as often as it is met; a slice's spare places count too). A statement '..UptoSaid' is the law's where the arguments, and the package variables that the reading takes, are together of bulk at most 1048576: NARROWER than '..Said'. Prove '..Said' where nothing that the law and all that it calls make is longer than what came in: it says more and counts as full. Else prove '..UptoSaid'. A law counts once. -/
mutual
def uptoBulk {H : Type} : DataW H → Nat
  | .lit (.string bytes) => bytes.length + 1
  | .lit _ => 1
  | .nil => 1
  | .ptr d => uptoBulk d + 1
  | .slice elems spare => uptoBulkAll elems + uptoBulkAll spare + 1
  | .agg parts => uptoBulkAll parts + 1
  | .iface _ d => uptoBulk d + 1
  | .map entries => uptoBulkEntries entries + 1
  | .held _ => 1
def uptoBulkAll {H : Type} : List (DataW H) → Nat
  | [] => 0
  | d :: r => uptoBulk d + uptoBulkAll r
def uptoBulkEntries {H : Type} : List (Lit × DataW H) → Nat
  | [] => 0
  | x :: r => uptoBulkEntry x + uptoBulkEntries r
def uptoBulkEntry {H : Type} : Lit × DataW H → Nat
  | (.string bytes, d) => bytes.length + uptoBulk d + 1
  | (_, d) => uptoBulk d + 1
 end
def uptoSmall : (H : Type) → List (DataW H) → Bool := fun _ ds => decide (uptoBulkAll ds ≤ 1048576)
def OpenSpec.upto (s : _root_.Go.ChangeSpec) : _root_.Go.OpenSpec := { _root_.Go.OpenSpec.ofChange s with cond := some uptoSmall }

/-- 'arborlaw09.DigestTrees', WHERE WHAT IT READS IS OF BULK AT MOST 1048576: true; the input reads as it did. -/
def digestTreesUptoRow : OpenClaim := { program := "ytamolbegmkngdaagreatdoor", sum := "ca616ca0cb81a03e9bf0905da4a655d058d37f7bee4db0e6a009bf2d8fd2fe8d", func := "arbor/arborlaw09.DigestTrees", spec := "digestTrees", inPlace := ["internal/bytealg.IndexByteString", "internal/bytealg.IndexString"], unfollowed := true, recurses := true, named := ["internal/bytealg.MaxLen", "unicode/utf8.first", "unicode/utf8.acceptRanges"], apart := false, laid := [("unicode/utf8.acceptRanges", laid_unicode_utf8_acceptRanges), ("unicode/utf8.first", laid_unicode_utf8_first)], narrowed := true }
def DigestTreesUptoSaid : Prop := digestTreesUptoRow.holds Tryz.pinned (OpenSpec.upto digestTreesSpec)

/-- 'arborlaw10.QuotaMore', WHERE WHAT IT READS IS OF BULK AT MOST 1048576: true; the input reads as it did. -/
def quotaMoreUptoRow : OpenClaim := { program := "ytamolbegmkngdaagreatdoor", sum := "ca616ca0cb81a03e9bf0905da4a655d058d37f7bee4db0e6a009bf2d8fd2fe8d", func := "arbor/arborlaw10.QuotaMore", spec := "quotaMore", inPlace := ["internal/bytealg.IndexByteString", "internal/bytealg.IndexString"], unfollowed := true, recurses := true, named := ["internal/bytealg.MaxLen", "unicode/utf8.first", "unicode/utf8.acceptRanges"], apart := false, laid := [("unicode/utf8.acceptRanges", laid_unicode_utf8_acceptRanges), ("unicode/utf8.first", laid_unicode_utf8_first)], narrowed := true }
def QuotaMoreUptoSaid : Prop := quotaMoreUptoRow.holds Tryz.pinned (OpenSpec.upto quotaMoreSpec)

/-- 'arborlaw07.TreeMakes', WHERE WHAT IT READS IS OF BULK AT MOST 1048576: true; the input reads as it did. -/
def treeMakesUptoRow : OpenClaim := { program := "ytamolbegmkngdaagreatdoor", sum := "ca616ca0cb81a03e9bf0905da4a655d058d37f7bee4db0e6a009bf2d8fd2fe8d", func := "arbor/arborlaw07.TreeMakes", spec := "treeMakes", inPlace := ["internal/bytealg.IndexByteString", "internal/bytealg.IndexString"], unfollowed := true, recurses := true, named := ["internal/bytealg.MaxLen", "unicode/utf8.first", "unicode/utf8.acceptRanges"], apart := false, laid := [("unicode/utf8.acceptRanges", laid_unicode_utf8_acceptRanges), ("unicode/utf8.first", laid_unicode_utf8_first)], narrowed := true }
def TreeMakesUptoSaid : Prop := treeMakesUptoRow.holds Tryz.pinned (OpenSpec.upto treeMakesSpec)

/-- 'arborlaw10.QuotaExceeds', WHERE WHAT IT READS IS OF BULK AT MOST 1048576: true; the input reads as it did. -/
def quotaExceedsUptoRow : OpenClaim := { program := "ytamolbegmkngdaagreatdoor", sum := "ca616ca0cb81a03e9bf0905da4a655d058d37f7bee4db0e6a009bf2d8fd2fe8d", func := "arbor/arborlaw10.QuotaExceeds", spec := "quotaExceeds", inPlace := ["internal/bytealg.IndexByteString", "internal/bytealg.IndexString"], unfollowed := true, recurses := true, named := ["internal/bytealg.MaxLen", "unicode/utf8.first", "unicode/utf8.acceptRanges"], apart := false, laid := [("unicode/utf8.acceptRanges", laid_unicode_utf8_acceptRanges), ("unicode/utf8.first", laid_unicode_utf8_first)], narrowed := true }
def QuotaExceedsUptoSaid : Prop := quotaExceedsUptoRow.holds Tryz.pinned (OpenSpec.upto quotaExceedsSpec)

/-- 'arborlaw09.DigestRuns', WHERE WHAT IT READS IS OF BULK AT MOST 1048576: true; the input reads as it did. -/
def digestRunsUptoRow : OpenClaim := { program := "ytamolbegmkngdaagreatdoor", sum := "ca616ca0cb81a03e9bf0905da4a655d058d37f7bee4db0e6a009bf2d8fd2fe8d", func := "arbor/arborlaw09.DigestRuns", spec := "digestRuns", inPlace := ["internal/bytealg.IndexByteString", "internal/bytealg.IndexString"], unfollowed := true, recurses := true, named := ["internal/bytealg.MaxLen", "unicode/utf8.first", "unicode/utf8.acceptRanges"], apart := false, laid := [("unicode/utf8.acceptRanges", laid_unicode_utf8_acceptRanges), ("unicode/utf8.first", laid_unicode_utf8_first)], narrowed := true }
def DigestRunsUptoSaid : Prop := digestRunsUptoRow.holds Tryz.pinned (OpenSpec.upto digestRunsSpec)

/-- 'arborlaw10.QuotaGrowth', WHERE WHAT IT READS IS OF BULK AT MOST 1048576: true; the input reads as it did. -/
def quotaGrowthUptoRow : OpenClaim := { program := "ytamolbegmkngdaagreatdoor", sum := "ca616ca0cb81a03e9bf0905da4a655d058d37f7bee4db0e6a009bf2d8fd2fe8d", func := "arbor/arborlaw10.QuotaGrowth", spec := "quotaGrowth", inPlace := ["internal/bytealg.IndexByteString", "internal/bytealg.IndexString"], unfollowed := true, recurses := true, named := ["internal/bytealg.MaxLen", "unicode/utf8.first", "unicode/utf8.acceptRanges"], apart := false, laid := [("unicode/utf8.acceptRanges", laid_unicode_utf8_acceptRanges), ("unicode/utf8.first", laid_unicode_utf8_first)], narrowed := true }
def QuotaGrowthUptoSaid : Prop := quotaGrowthUptoRow.holds Tryz.pinned (OpenSpec.upto quotaGrowthSpec)

/-- 'arborlaw07.TreePlays', WHERE WHAT IT READS IS OF BULK AT MOST 1048576: true; the input reads as it did. -/
def treePlaysUptoRow : OpenClaim := { program := "ytamolbegmkngdaagreatdoor", sum := "ca616ca0cb81a03e9bf0905da4a655d058d37f7bee4db0e6a009bf2d8fd2fe8d", func := "arbor/arborlaw07.TreePlays", spec := "treePlays", inPlace := ["internal/bytealg.IndexByteString", "internal/bytealg.IndexString"], unfollowed := true, recurses := true, named := ["internal/bytealg.MaxLen", "unicode/utf8.first", "unicode/utf8.acceptRanges"], apart := false, laid := [("unicode/utf8.acceptRanges", laid_unicode_utf8_acceptRanges), ("unicode/utf8.first", laid_unicode_utf8_first)], narrowed := true }
def TreePlaysUptoSaid : Prop := treePlaysUptoRow.holds Tryz.pinned (OpenSpec.upto treePlaysSpec)

/-- 'arborlaw07.TreeNils', WHERE WHAT IT READS IS OF BULK AT MOST 1048576: true; the input reads as it did. -/
def treeNilsUptoRow : OpenClaim := { program := "ytamolbegmkngdaagreatdoor", sum := "ca616ca0cb81a03e9bf0905da4a655d058d37f7bee4db0e6a009bf2d8fd2fe8d", func := "arbor/arborlaw07.TreeNils", spec := "treeNils", inPlace := ["internal/bytealg.IndexByteString", "internal/bytealg.IndexString"], unfollowed := true, recurses := true, named := ["internal/bytealg.MaxLen", "unicode/utf8.first", "unicode/utf8.acceptRanges"], apart := false, laid := [("unicode/utf8.acceptRanges", laid_unicode_utf8_acceptRanges), ("unicode/utf8.first", laid_unicode_utf8_first)], narrowed := true }
def TreeNilsUptoSaid : Prop := treeNilsUptoRow.holds Tryz.pinned (OpenSpec.upto treeNilsSpec)

/-- 'arborlaw10.QuotaTurns', WHERE WHAT IT READS IS OF BULK AT MOST 1048576: true; the input reads as it did. -/
def quotaTurnsUptoRow : OpenClaim := { program := "ytamolbegmkngdaagreatdoor", sum := "ca616ca0cb81a03e9bf0905da4a655d058d37f7bee4db0e6a009bf2d8fd2fe8d", func := "arbor/arborlaw10.QuotaTurns", spec := "quotaTurns", inPlace := ["internal/bytealg.IndexByteString", "internal/bytealg.IndexString"], unfollowed := true, recurses := true, named := ["internal/bytealg.MaxLen", "unicode/utf8.first", "unicode/utf8.acceptRanges"], apart := false, laid := [("unicode/utf8.acceptRanges", laid_unicode_utf8_acceptRanges), ("unicode/utf8.first", laid_unicode_utf8_first)], narrowed := true }
def QuotaTurnsUptoSaid : Prop := quotaTurnsUptoRow.holds Tryz.pinned (OpenSpec.upto quotaTurnsSpec)

end Rows
end Go.Proofs.YtamolbegmkngdaaGreatDoor
