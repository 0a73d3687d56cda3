/-
  NARROWER THAN 'FOR EVERY INPUT', by the rows' own cells (each row's printed sentence says how): StateReads: laid · StateBack: loops, laid · QueryMore: loops, laid · LinesTexts: loops, laid · QueryFinds: loops, laid.
  DERIVED. THE GIVEN ROWS OF THIS SEAT. 5 by the template 'for every input the law returns true; each argument reads behind the call as it read before'; 0 by the template 'total and deterministic' (their statements: YtmdimhcjogjcgaaGreatDoorTotals.lean).
  GIVEN WITH THE SEED: the statements are not yours to turn. If you find one false, say at which input.
  Laid BY PROGRAM, IN A SANDBOX (cutbox-rows.mjs): the forced cells as the released guide's own fill.sh prints them over the translation d0492cc93875931d… (all of the seat's roots in one cut). By AI agents, Wed Nov 11 2026. No macro, syntax, notation, axiom, sorry.
-/
import Derived.Test.YtmdimhcjogjcgaaGreatDoorChecked
import GoSem.PinnedTables
import GoSem.Claim
import GoSem.ClaimJoined
import GoSem.ClaimMapViews
import Derived.JoinedTies
import Derived.KernelRfl
namespace Go.Proofs.YtmdimhcjogjcgaaGreatDoor
/- THE CELL 'sum', in the pinned program and in every row, IS THE sha256 OF THE DUMP (.gsa) THAT YtmdimhcjogjcgaaGreatDoorProg.lean LOADS. Nothing in Lean hashes anything: it is a label: what it is worth is what the hold of that sum in a sandbox is worth. -/
noncomputable def Tryz.pinned : Pinned := { name := "ytmdimhcjogjcgaagreatdoor", sum := "d0492cc93875931d532fe7894c71256d3cfc4d1e5c28d1d7831e0b139426ea8c", checked := Tryz.checked }
namespace Rows
def none {H : Type} : Left H := { results := [], args := [] }

/- WHAT THE LISTED PACKAGE-LEVEL VARIABLES READ AS WHEN THE CALL BEGINS. Each datum BY PROGRAM (the guide's laid-datum.mjs) off the statement by which the dump's own 'gosem.cut.vars' lays the variable. In a bare row this is a premise. The card (YtmdimhcjogjcgaaGreatDoorCards.lean) ties it to the program's text. -/
def laid_treillage_name_words {H : Type} : DataW H := .agg [.lit (.string [97, 110, 121]), .lit (.string [98, 111, 111, 108]), .lit (.string [99, 111, 109, 112, 117, 116, 101, 100]), .lit (.string [102, 97, 108, 115, 101]), .lit (.string [105, 110, 116]), .lit (.string [110, 111, 110, 101]), .lit (.string [114, 101, 115, 111, 117, 114, 99, 101]), .lit (.string [115, 116, 114, 105, 110, 103]), .lit (.string [116, 114, 117, 101])]
def laid_unicode_utf8_acceptRanges {H : Type} : DataW H := .agg [.agg [.lit (.int .u8 128), .lit (.int .u8 191)], .agg [.lit (.int .u8 160), .lit (.int .u8 191)], .agg [.lit (.int .u8 128), .lit (.int .u8 159)], .agg [.lit (.int .u8 144), .lit (.int .u8 191)], .agg [.lit (.int .u8 128), .lit (.int .u8 143)], .agg [.lit (.int .u8 0), .lit (.int .u8 0)], .agg [.lit (.int .u8 0), .lit (.int .u8 0)], .agg [.lit (.int .u8 0), .lit (.int .u8 0)], .agg [.lit (.int .u8 0), .lit (.int .u8 0)], .agg [.lit (.int .u8 0), .lit (.int .u8 0)], .agg [.lit (.int .u8 0), .lit (.int .u8 0)], .agg [.lit (.int .u8 0), .lit (.int .u8 0)], .agg [.lit (.int .u8 0), .lit (.int .u8 0)], .agg [.lit (.int .u8 0), .lit (.int .u8 0)], .agg [.lit (.int .u8 0), .lit (.int .u8 0)], .agg [.lit (.int .u8 0), .lit (.int .u8 0)]]
/-- One of Go's own tables, pinned by name: the form's constant. -/
def laid_unicode_utf8_first : DataW Unit := Go.Pinned.utf8First
def laid_treillage_show_binds {H : Type} : DataW H := .agg [.lit (.int .i64 0), .lit (.int .i64 0), .lit (.int .i64 0), .lit (.int .i64 0), .lit (.int .i64 0), .lit (.int .i64 0), .lit (.int .i64 0), .lit (.int .i64 0), .lit (.int .i64 0), .lit (.int .i64 0), .lit (.int .i64 0), .lit (.int .i64 2), .lit (.int .i64 1), .lit (.int .i64 3), .lit (.int .i64 3), .lit (.int .i64 4)]
def laid_treillage_show_signs {H : Type} : DataW H := .agg [.lit (.string []), .lit (.string []), .lit (.string []), .lit (.string []), .lit (.string []), .lit (.string []), .lit (.string []), .lit (.string []), .lit (.string []), .lit (.string []), .lit (.string []), .lit (.string [32, 38, 32]), .lit (.string [32, 124, 32]), .lit (.string [32, 43, 32]), .lit (.string [32, 45, 32]), .lit (.string [32, 42, 32])]
def laid_treillage_show_kinds {H : Type} : DataW H := .agg [.lit (.string []), .lit (.string [98, 111, 111, 108]), .lit (.string [105, 110, 116]), .lit (.string [115, 116, 114, 105, 110, 103]), .lit (.string []), .lit (.string [97, 110, 121])]

/-- 'treillagelaw30.StateReads': WHATEVER THE INPUT: true; the input reads as it did. -/
def stateReadsSpec : ChangeSpec := { name := "stateReads", fn := fun _ => fun
  | [d] => { results := [.lit (.bool true)], args := [d] }
  | _ => none }
def stateReadsRow : OpenClaim := { program := "ytmdimhcjogjcgaagreatdoor", sum := "d0492cc93875931d532fe7894c71256d3cfc4d1e5c28d1d7831e0b139426ea8c", func := "treillage/treillagelaw30.StateReads", spec := "stateReads", inPlace := ["internal/bytealg.abigen_runtime_cmpstring", "slices.overlaps[string]"], unfollowed := true, recurses := true, named := ["treillage/name.words"], apart := false, laid := [("treillage/name.words", laid_treillage_name_words)] }
def StateReadsSaid : Prop := stateReadsRow.holds Tryz.pinned (OpenSpec.ofChange stateReadsSpec)

/-- ITS FALSE NEIGHBOUR: 'it returns false'. Refute it at one input. -/
def stateReadsWrong : ChangeSpec := { name := "stateReads", fn := fun _ => fun
  | [d] => { results := [.lit (.bool false)], args := [d] }
  | _ => none }
def StateReadsWrongFalsely : Prop := stateReadsRow.holds Tryz.pinned (OpenSpec.ofChange stateReadsWrong)

/-- 'treillagelaw30.StateBack': WHATEVER THE INPUT: true; the input reads as it did. -/
def stateBackSpec : ChangeSpec := { name := "stateBack", fn := fun _ => fun
  | [d1, d2, d3] => { results := [.lit (.bool true)], args := [d1, d2, d3] }
  | _ => none }
def stateBackRow : OpenClaim := { program := "ytmdimhcjogjcgaagreatdoor", sum := "d0492cc93875931d532fe7894c71256d3cfc4d1e5c28d1d7831e0b139426ea8c", func := "treillage/treillagelaw30.StateBack", spec := "stateBack", inPlace := ["internal/bytealg.abigen_runtime_cmpstring", "slices.overlaps[string]"], unfollowed := true, recurses := true, named := ["treillage/name.words"], loops := true, apart := false, laid := [("treillage/name.words", laid_treillage_name_words)] }
def StateBackSaid : Prop := stateBackRow.holds Tryz.pinned (OpenSpec.ofChange stateBackSpec)

/-- ITS FALSE NEIGHBOUR: 'it returns false'. Refute it at one input. -/
def stateBackWrong : ChangeSpec := { name := "stateBack", fn := fun _ => fun
  | [d1, d2, d3] => { results := [.lit (.bool false)], args := [d1, d2, d3] }
  | _ => none }
def StateBackWrongFalsely : Prop := stateBackRow.holds Tryz.pinned (OpenSpec.ofChange stateBackWrong)

/-- 'treillagelaw46.QueryMore': WHATEVER THE INPUT: true; the input reads as it did. -/
def queryMoreSpec : ChangeSpec := { name := "queryMore", fn := fun _ => fun
  | [d1, d2, d3] => { results := [.lit (.bool true)], args := [d1, d2, d3] }
  | _ => none }
def queryMoreRow : OpenClaim := { program := "ytmdimhcjogjcgaagreatdoor", sum := "d0492cc93875931d532fe7894c71256d3cfc4d1e5c28d1d7831e0b139426ea8c", func := "treillage/treillagelaw46.QueryMore", spec := "queryMore", inPlace := ["internal/bytealg.CountString", "internal/bytealg.IndexByteString", "internal/bytealg.IndexString", "internal/bytealg.abigen_runtime_cmpstring", "slices.overlaps[string]"], unfollowed := true, recurses := true, named := ["unicode/utf8.first", "unicode/utf8.acceptRanges", "internal/bytealg.MaxLen", "treillage/name.words"], loops := true, apart := false, laid := [("unicode/utf8.acceptRanges", laid_unicode_utf8_acceptRanges), ("treillage/name.words", laid_treillage_name_words), ("unicode/utf8.first", laid_unicode_utf8_first)] }
def QueryMoreSaid : Prop := queryMoreRow.holds Tryz.pinned (OpenSpec.ofChange queryMoreSpec)

/-- ITS FALSE NEIGHBOUR: 'it returns false'. Refute it at one input. -/
def queryMoreWrong : ChangeSpec := { name := "queryMore", fn := fun _ => fun
  | [d1, d2, d3] => { results := [.lit (.bool false)], args := [d1, d2, d3] }
  | _ => none }
def QueryMoreWrongFalsely : Prop := queryMoreRow.holds Tryz.pinned (OpenSpec.ofChange queryMoreWrong)

/-- 'treillagelaw36.LinesTexts': WHATEVER THE INPUT: true; the input reads as it did. -/
def linesTextsSpec : ChangeSpec := { name := "linesTexts", fn := fun _ => fun
  | [d1, d2] => { results := [.lit (.bool true)], args := [d1, d2] }
  | _ => none }
def linesTextsRow : OpenClaim := { program := "ytmdimhcjogjcgaagreatdoor", sum := "d0492cc93875931d532fe7894c71256d3cfc4d1e5c28d1d7831e0b139426ea8c", func := "treillage/treillagelaw36.LinesTexts", spec := "linesTexts", inPlace := ["internal/bytealg.abigen_runtime_cmpstring", "internal/abi.NoEscape", "internal/bytealg.MakeNoZero", "slices.overlaps[string]"], unfollowed := true, recurses := true, named := ["treillage/name.words", "treillage/show.kinds", "treillage/show.signs", "treillage/show.binds"], loops := true, apart := false, laid := [("treillage/name.words", laid_treillage_name_words), ("treillage/show.binds", laid_treillage_show_binds), ("treillage/show.signs", laid_treillage_show_signs), ("treillage/show.kinds", laid_treillage_show_kinds)] }
def LinesTextsSaid : Prop := linesTextsRow.holds Tryz.pinned (OpenSpec.ofChange linesTextsSpec)

/-- ITS FALSE NEIGHBOUR: 'it returns false'. Refute it at one input. -/
def linesTextsWrong : ChangeSpec := { name := "linesTexts", fn := fun _ => fun
  | [d1, d2] => { results := [.lit (.bool false)], args := [d1, d2] }
  | _ => none }
def LinesTextsWrongFalsely : Prop := linesTextsRow.holds Tryz.pinned (OpenSpec.ofChange linesTextsWrong)

/-- 'treillagelaw46.QueryFinds': WHATEVER THE INPUT: true; the input reads as it did. -/
def queryFindsSpec : ChangeSpec := { name := "queryFinds", fn := fun _ => fun
  | [d1, d2] => { results := [.lit (.bool true)], args := [d1, d2] }
  | _ => none }
def queryFindsRow : OpenClaim := { program := "ytmdimhcjogjcgaagreatdoor", sum := "d0492cc93875931d532fe7894c71256d3cfc4d1e5c28d1d7831e0b139426ea8c", func := "treillage/treillagelaw46.QueryFinds", spec := "queryFinds", inPlace := ["internal/bytealg.CountString", "internal/bytealg.IndexByteString", "internal/bytealg.IndexString", "internal/bytealg.abigen_runtime_cmpstring", "slices.overlaps[string]", "internal/abi.NoEscape", "internal/bytealg.MakeNoZero"], unfollowed := true, recurses := true, named := ["unicode/utf8.first", "unicode/utf8.acceptRanges", "internal/bytealg.MaxLen", "treillage/name.words", "treillage/show.kinds", "treillage/show.signs", "treillage/show.binds"], loops := true, apart := false, laid := [("unicode/utf8.acceptRanges", laid_unicode_utf8_acceptRanges), ("treillage/name.words", laid_treillage_name_words), ("treillage/show.binds", laid_treillage_show_binds), ("treillage/show.signs", laid_treillage_show_signs), ("treillage/show.kinds", laid_treillage_show_kinds), ("unicode/utf8.first", laid_unicode_utf8_first)] }
def QueryFindsSaid : Prop := queryFindsRow.holds Tryz.pinned (OpenSpec.ofChange queryFindsSpec)

/-- ITS FALSE NEIGHBOUR: 'it returns false'. Refute it at one input. -/
def queryFindsWrong : ChangeSpec := { name := "queryFinds", fn := fun _ => fun
  | [d1, d2] => { results := [.lit (.bool false)], args := [d1, d2] }
  | _ => none }
def QueryFindsWrongFalsely : Prop := queryFindsRow.holds Tryz.pinned (OpenSpec.ofChange queryFindsWrong)

/- THE SECOND FORM. 'bulk': how many values and letters a reading holds, each counted each time it is reached (what is shared counts as often as it is met; a slice's spare places count too). A statement '..UptoSaid' is the law's where the arguments, and the package variables that the reading takes, are together of bulk at most 1048576: NARROWER than '..Said'. Prove '..Said' where nothing that the law and all that it calls make is longer than what came in: it says more and counts as full. Else prove '..UptoSaid'. A law counts once. -/
mutual
def uptoBulk {H : Type} : DataW H → Nat
  | .lit (.string bytes) => bytes.length + 1
  | .lit _ => 1
  | .nil => 1
  | .ptr d => uptoBulk d + 1
  | .slice elems spare => uptoBulkAll elems + uptoBulkAll spare + 1
  | .agg parts => uptoBulkAll parts + 1
  | .iface _ d => uptoBulk d + 1
  | .map entries => uptoBulkEntries entries + 1
  | .held _ => 1
def uptoBulkAll {H : Type} : List (DataW H) → Nat
  | [] => 0
  | d :: r => uptoBulk d + uptoBulkAll r
def uptoBulkEntries {H : Type} : List (Lit × DataW H) → Nat
  | [] => 0
  | x :: r => uptoBulkEntry x + uptoBulkEntries r
def uptoBulkEntry {H : Type} : Lit × DataW H → Nat
  | (.string bytes, d) => bytes.length + uptoBulk d + 1
  | (_, d) => uptoBulk d + 1
 end
def uptoSmall : (H : Type) → List (DataW H) → Bool := fun _ ds => decide (uptoBulkAll ds ≤ 1048576)
def OpenSpec.upto (s : _root_.Go.ChangeSpec) : _root_.Go.OpenSpec := { _root_.Go.OpenSpec.ofChange s with cond := some uptoSmall }

/-- 'treillagelaw30.StateReads', WHERE WHAT IT READS IS OF BULK AT MOST 1048576: true; the input reads as it did. -/
def stateReadsUptoRow : OpenClaim := { program := "ytmdimhcjogjcgaagreatdoor", sum := "d0492cc93875931d532fe7894c71256d3cfc4d1e5c28d1d7831e0b139426ea8c", func := "treillage/treillagelaw30.StateReads", spec := "stateReads", inPlace := ["internal/bytealg.abigen_runtime_cmpstring", "slices.overlaps[string]"], unfollowed := true, recurses := true, named := ["treillage/name.words"], apart := false, laid := [("treillage/name.words", laid_treillage_name_words)], narrowed := true }
def StateReadsUptoSaid : Prop := stateReadsUptoRow.holds Tryz.pinned (OpenSpec.upto stateReadsSpec)

/-- 'treillagelaw30.StateBack', WHERE WHAT IT READS IS OF BULK AT MOST 1048576: true; the input reads as it did. -/
def stateBackUptoRow : OpenClaim := { program := "ytmdimhcjogjcgaagreatdoor", sum := "d0492cc93875931d532fe7894c71256d3cfc4d1e5c28d1d7831e0b139426ea8c", func := "treillage/treillagelaw30.StateBack", spec := "stateBack", inPlace := ["internal/bytealg.abigen_runtime_cmpstring", "slices.overlaps[string]"], unfollowed := true, recurses := true, named := ["treillage/name.words"], loops := true, apart := false, laid := [("treillage/name.words", laid_treillage_name_words)], narrowed := true }
def StateBackUptoSaid : Prop := stateBackUptoRow.holds Tryz.pinned (OpenSpec.upto stateBackSpec)

/-- 'treillagelaw46.QueryMore', WHERE WHAT IT READS IS OF BULK AT MOST 1048576: true; the input reads as it did. -/
def queryMoreUptoRow : OpenClaim := { program := "ytmdimhcjogjcgaagreatdoor", sum := "d0492cc93875931d532fe7894c71256d3cfc4d1e5c28d1d7831e0b139426ea8c", func := "treillage/treillagelaw46.QueryMore", spec := "queryMore", inPlace := ["internal/bytealg.CountString", "internal/bytealg.IndexByteString", "internal/bytealg.IndexString", "internal/bytealg.abigen_runtime_cmpstring", "slices.overlaps[string]"], unfollowed := true, recurses := true, named := ["unicode/utf8.first", "unicode/utf8.acceptRanges", "internal/bytealg.MaxLen", "treillage/name.words"], loops := true, apart := false, laid := [("unicode/utf8.acceptRanges", laid_unicode_utf8_acceptRanges), ("treillage/name.words", laid_treillage_name_words), ("unicode/utf8.first", laid_unicode_utf8_first)], narrowed := true }
def QueryMoreUptoSaid : Prop := queryMoreUptoRow.holds Tryz.pinned (OpenSpec.upto queryMoreSpec)

/-- 'treillagelaw36.LinesTexts', WHERE WHAT IT READS IS OF BULK AT MOST 1048576: true; the input reads as it did. -/
def linesTextsUptoRow : OpenClaim := { program := "ytmdimhcjogjcgaagreatdoor", sum := "d0492cc93875931d532fe7894c71256d3cfc4d1e5c28d1d7831e0b139426ea8c", func := "treillage/treillagelaw36.LinesTexts", spec := "linesTexts", inPlace := ["internal/bytealg.abigen_runtime_cmpstring", "internal/abi.NoEscape", "internal/bytealg.MakeNoZero", "slices.overlaps[string]"], unfollowed := true, recurses := true, named := ["treillage/name.words", "treillage/show.kinds", "treillage/show.signs", "treillage/show.binds"], loops := true, apart := false, laid := [("treillage/name.words", laid_treillage_name_words), ("treillage/show.binds", laid_treillage_show_binds), ("treillage/show.signs", laid_treillage_show_signs), ("treillage/show.kinds", laid_treillage_show_kinds)], narrowed := true }
def LinesTextsUptoSaid : Prop := linesTextsUptoRow.holds Tryz.pinned (OpenSpec.upto linesTextsSpec)

/-- 'treillagelaw46.QueryFinds', WHERE WHAT IT READS IS OF BULK AT MOST 1048576: true; the input reads as it did. -/
def queryFindsUptoRow : OpenClaim := { program := "ytmdimhcjogjcgaagreatdoor", sum := "d0492cc93875931d532fe7894c71256d3cfc4d1e5c28d1d7831e0b139426ea8c", func := "treillage/treillagelaw46.QueryFinds", spec := "queryFinds", inPlace := ["internal/bytealg.CountString", "internal/bytealg.IndexByteString", "internal/bytealg.IndexString", "internal/bytealg.abigen_runtime_cmpstring", "slices.overlaps[string]", "internal/abi.NoEscape", "internal/bytealg.MakeNoZero"], unfollowed := true, recurses := true, named := ["unicode/utf8.first", "unicode/utf8.acceptRanges", "internal/bytealg.MaxLen", "treillage/name.words", "treillage/show.kinds", "treillage/show.signs", "treillage/show.binds"], loops := true, apart := false, laid := [("unicode/utf8.acceptRanges", laid_unicode_utf8_acceptRanges), ("treillage/name.words", laid_treillage_name_words), ("treillage/show.binds", laid_treillage_show_binds), ("treillage/show.signs", laid_treillage_show_signs), ("treillage/show.kinds", laid_treillage_show_kinds), ("unicode/utf8.first", laid_unicode_utf8_first)], narrowed := true }
def QueryFindsUptoSaid : Prop := queryFindsUptoRow.holds Tryz.pinned (OpenSpec.upto queryFindsSpec)

end Rows
end Go.Proofs.YtmdimhcjogjcgaaGreatDoor
