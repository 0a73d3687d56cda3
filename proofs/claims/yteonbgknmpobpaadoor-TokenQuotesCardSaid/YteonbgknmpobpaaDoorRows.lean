/-
  NARROWER THAN 'FOR EVERY INPUT', by the rows' own cells (each row's printed sentence says how): TokenNext: laid · TokenLex: laid · TokenQuotes: laid · NameRights: laid · NameSplits: laid · NameBack: laid.
  DERIVED. THE GIVEN ROWS OF THIS SEAT. 6 by the template 'for every input the law returns true; each argument reads behind the call as it read before'; 0 by the template 'total and deterministic' (their statements: YteonbgknmpobpaaDoorTotals.lean).
  GIVEN WITH THE SEED: the statements are not yours to turn. If you find one false, say at which input.
  Laid BY PROGRAM, IN A SANDBOX (cutbox-rows.mjs): the forced cells as the released guide's own fill.sh prints them over the translation a67386f85b0c66dd… (all of the seat's roots in one cut). By AI agents, Wed Nov 11 2026. No macro, syntax, notation, axiom, sorry.
-/
import Derived.Test.YteonbgknmpobpaaDoorChecked
import GoSem.PinnedTables
import GoSem.Claim
import GoSem.ClaimJoined
import GoSem.ClaimMapViews
import Derived.JoinedTies
import Derived.KernelRfl
namespace Go.Proofs.YteonbgknmpobpaaDoor
/- THE CELL 'sum', in the pinned program and in every row, IS THE sha256 OF THE DUMP (.gsa) THAT YteonbgknmpobpaaDoorProg.lean LOADS. Nothing in Lean hashes anything: it is a label: what it is worth is what the hold of that sum in a sandbox is worth. -/
noncomputable def Tryd.pinned : Pinned := { name := "yteonbgknmpobpaadoor", sum := "a67386f85b0c66dd7de73318e9ff7b4cf4fadb6276463e7a469ebc4046c4e00e", checked := Tryd.checked }
namespace Rows
def none {H : Type} : Left H := { results := [], args := [] }

/- WHAT THE LISTED PACKAGE-LEVEL VARIABLES READ AS WHEN THE CALL BEGINS. Each datum BY PROGRAM (the guide's laid-datum.mjs) off the statement by which the dump's own 'gosem.cut.vars' lays the variable. In a bare row this is a premise. The card (YteonbgknmpobpaaDoorCards.lean) ties it to the program's text. -/
def laid_treillage_name_words {H : Type} : DataW H := .agg [.lit (.string [97, 110, 121]), .lit (.string [98, 111, 111, 108]), .lit (.string [99, 111, 109, 112, 117, 116, 101, 100]), .lit (.string [102, 97, 108, 115, 101]), .lit (.string [105, 110, 116]), .lit (.string [110, 111, 110, 101]), .lit (.string [114, 101, 115, 111, 117, 114, 99, 101]), .lit (.string [115, 116, 114, 105, 110, 103]), .lit (.string [116, 114, 117, 101])]
def laid_treillage_token_signs {H : Type} : DataW H := .agg [.lit (.string [46, 46, 46]), .lit (.string [62, 61]), .lit (.string [60, 61]), .lit (.string [58]), .lit (.string [59]), .lit (.string [123]), .lit (.string [125]), .lit (.string [40]), .lit (.string [41]), .lit (.string [38]), .lit (.string [124]), .lit (.string [43]), .lit (.string [45]), .lit (.string [42]), .lit (.string [46])]
def laid_unicode_utf8_acceptRanges {H : Type} : DataW H := .agg [.agg [.lit (.int .u8 128), .lit (.int .u8 191)], .agg [.lit (.int .u8 160), .lit (.int .u8 191)], .agg [.lit (.int .u8 128), .lit (.int .u8 159)], .agg [.lit (.int .u8 144), .lit (.int .u8 191)], .agg [.lit (.int .u8 128), .lit (.int .u8 143)], .agg [.lit (.int .u8 0), .lit (.int .u8 0)], .agg [.lit (.int .u8 0), .lit (.int .u8 0)], .agg [.lit (.int .u8 0), .lit (.int .u8 0)], .agg [.lit (.int .u8 0), .lit (.int .u8 0)], .agg [.lit (.int .u8 0), .lit (.int .u8 0)], .agg [.lit (.int .u8 0), .lit (.int .u8 0)], .agg [.lit (.int .u8 0), .lit (.int .u8 0)], .agg [.lit (.int .u8 0), .lit (.int .u8 0)], .agg [.lit (.int .u8 0), .lit (.int .u8 0)], .agg [.lit (.int .u8 0), .lit (.int .u8 0)], .agg [.lit (.int .u8 0), .lit (.int .u8 0)]]
/-- One of Go's own tables, pinned by name: the form's constant. -/
def laid_unicode_utf8_first : DataW Unit := Go.Pinned.utf8First

/-- 'treillagelaw12.TokenNext': WHATEVER THE INPUT: true; the input reads as it did. -/
def tokenNextSpec : ChangeSpec := { name := "tokenNext", fn := fun _ => fun
  | [d1, d2] => { results := [.lit (.bool true)], args := [d1, d2] }
  | _ => none }
def tokenNextRow : OpenClaim := { program := "yteonbgknmpobpaadoor", sum := "a67386f85b0c66dd7de73318e9ff7b4cf4fadb6276463e7a469ebc4046c4e00e", func := "treillage/treillagelaw12.TokenNext", spec := "tokenNext", inPlace := ["internal/bytealg.IndexByteString"], unfollowed := true, recurses := true, named := ["treillage/token.signs", "treillage/name.words"], apart := false, laid := [("treillage/name.words", laid_treillage_name_words), ("treillage/token.signs", laid_treillage_token_signs)] }
def TokenNextSaid : Prop := tokenNextRow.holds Tryd.pinned (OpenSpec.ofChange tokenNextSpec)

/-- ITS FALSE NEIGHBOUR: 'it returns false'. Refute it at one input. -/
def tokenNextWrong : ChangeSpec := { name := "tokenNext", fn := fun _ => fun
  | [d1, d2] => { results := [.lit (.bool false)], args := [d1, d2] }
  | _ => none }
def TokenNextWrongFalsely : Prop := tokenNextRow.holds Tryd.pinned (OpenSpec.ofChange tokenNextWrong)

/-- 'treillagelaw12.TokenLex': WHATEVER THE INPUT: true; the input reads as it did. -/
def tokenLexSpec : ChangeSpec := { name := "tokenLex", fn := fun _ => fun
  | [d] => { results := [.lit (.bool true)], args := [d] }
  | _ => none }
def tokenLexRow : OpenClaim := { program := "yteonbgknmpobpaadoor", sum := "a67386f85b0c66dd7de73318e9ff7b4cf4fadb6276463e7a469ebc4046c4e00e", func := "treillage/treillagelaw12.TokenLex", spec := "tokenLex", inPlace := ["internal/bytealg.IndexByteString"], unfollowed := true, recurses := true, named := ["treillage/token.signs", "treillage/name.words"], apart := false, laid := [("treillage/name.words", laid_treillage_name_words), ("treillage/token.signs", laid_treillage_token_signs)] }
def TokenLexSaid : Prop := tokenLexRow.holds Tryd.pinned (OpenSpec.ofChange tokenLexSpec)

/-- ITS FALSE NEIGHBOUR: 'it returns false'. Refute it at one input. -/
def tokenLexWrong : ChangeSpec := { name := "tokenLex", fn := fun _ => fun
  | [d] => { results := [.lit (.bool false)], args := [d] }
  | _ => none }
def TokenLexWrongFalsely : Prop := tokenLexRow.holds Tryd.pinned (OpenSpec.ofChange tokenLexWrong)

/-- 'treillagelaw12.TokenQuotes': WHATEVER THE INPUT: true; the input reads as it did. -/
def tokenQuotesSpec : ChangeSpec := { name := "tokenQuotes", fn := fun _ => fun
  | [d1, d2] => { results := [.lit (.bool true)], args := [d1, d2] }
  | _ => none }
def tokenQuotesRow : OpenClaim := { program := "yteonbgknmpobpaadoor", sum := "a67386f85b0c66dd7de73318e9ff7b4cf4fadb6276463e7a469ebc4046c4e00e", func := "treillage/treillagelaw12.TokenQuotes", spec := "tokenQuotes", inPlace := ["internal/bytealg.IndexByteString"], unfollowed := true, recurses := true, named := ["treillage/token.signs", "treillage/name.words"], apart := false, laid := [("treillage/name.words", laid_treillage_name_words), ("treillage/token.signs", laid_treillage_token_signs)] }
def TokenQuotesSaid : Prop := tokenQuotesRow.holds Tryd.pinned (OpenSpec.ofChange tokenQuotesSpec)

/-- ITS FALSE NEIGHBOUR: 'it returns false'. Refute it at one input. -/
def tokenQuotesWrong : ChangeSpec := { name := "tokenQuotes", fn := fun _ => fun
  | [d1, d2] => { results := [.lit (.bool false)], args := [d1, d2] }
  | _ => none }
def TokenQuotesWrongFalsely : Prop := tokenQuotesRow.holds Tryd.pinned (OpenSpec.ofChange tokenQuotesWrong)

/-- 'treillagelaw02.NameRights': WHATEVER THE INPUT: true; the input reads as it did. -/
def nameRightsSpec : ChangeSpec := { name := "nameRights", fn := fun _ => fun
  | [d1, d2] => { results := [.lit (.bool true)], args := [d1, d2] }
  | _ => none }
def nameRightsRow : OpenClaim := { program := "yteonbgknmpobpaadoor", sum := "a67386f85b0c66dd7de73318e9ff7b4cf4fadb6276463e7a469ebc4046c4e00e", func := "treillage/treillagelaw02.NameRights", spec := "nameRights", inPlace := ["internal/bytealg.CountString", "internal/bytealg.IndexByteString", "internal/bytealg.IndexString"], named := ["unicode/utf8.first", "unicode/utf8.acceptRanges", "internal/bytealg.MaxLen", "treillage/name.words"], apart := false, laid := [("unicode/utf8.acceptRanges", laid_unicode_utf8_acceptRanges), ("treillage/name.words", laid_treillage_name_words), ("unicode/utf8.first", laid_unicode_utf8_first)] }
def NameRightsSaid : Prop := nameRightsRow.holds Tryd.pinned (OpenSpec.ofChange nameRightsSpec)

/-- ITS FALSE NEIGHBOUR: 'it returns false'. Refute it at one input. -/
def nameRightsWrong : ChangeSpec := { name := "nameRights", fn := fun _ => fun
  | [d1, d2] => { results := [.lit (.bool false)], args := [d1, d2] }
  | _ => none }
def NameRightsWrongFalsely : Prop := nameRightsRow.holds Tryd.pinned (OpenSpec.ofChange nameRightsWrong)

/-- 'treillagelaw02.NameSplits': WHATEVER THE INPUT: true; the input reads as it did. -/
def nameSplitsSpec : ChangeSpec := { name := "nameSplits", fn := fun _ => fun
  | [d1, d2] => { results := [.lit (.bool true)], args := [d1, d2] }
  | _ => none }
def nameSplitsRow : OpenClaim := { program := "yteonbgknmpobpaadoor", sum := "a67386f85b0c66dd7de73318e9ff7b4cf4fadb6276463e7a469ebc4046c4e00e", func := "treillage/treillagelaw02.NameSplits", spec := "nameSplits", inPlace := ["internal/bytealg.CountString", "internal/bytealg.IndexByteString", "internal/bytealg.IndexString", "internal/abi.NoEscape", "internal/bytealg.MakeNoZero"], named := ["unicode/utf8.first", "unicode/utf8.acceptRanges", "internal/bytealg.MaxLen", "treillage/name.words"], apart := false, laid := [("unicode/utf8.acceptRanges", laid_unicode_utf8_acceptRanges), ("treillage/name.words", laid_treillage_name_words), ("unicode/utf8.first", laid_unicode_utf8_first)] }
def NameSplitsSaid : Prop := nameSplitsRow.holds Tryd.pinned (OpenSpec.ofChange nameSplitsSpec)

/-- ITS FALSE NEIGHBOUR: 'it returns false'. Refute it at one input. -/
def nameSplitsWrong : ChangeSpec := { name := "nameSplits", fn := fun _ => fun
  | [d1, d2] => { results := [.lit (.bool false)], args := [d1, d2] }
  | _ => none }
def NameSplitsWrongFalsely : Prop := nameSplitsRow.holds Tryd.pinned (OpenSpec.ofChange nameSplitsWrong)

/-- 'treillagelaw02.NameBack': WHATEVER THE INPUT: true; the input reads as it did. -/
def nameBackSpec : ChangeSpec := { name := "nameBack", fn := fun _ => fun
  | [d1, d2] => { results := [.lit (.bool true)], args := [d1, d2] }
  | _ => none }
def nameBackRow : OpenClaim := { program := "yteonbgknmpobpaadoor", sum := "a67386f85b0c66dd7de73318e9ff7b4cf4fadb6276463e7a469ebc4046c4e00e", func := "treillage/treillagelaw02.NameBack", spec := "nameBack", inPlace := ["internal/bytealg.CountString", "internal/bytealg.IndexByteString", "internal/bytealg.IndexString", "internal/abi.NoEscape", "internal/bytealg.MakeNoZero"], named := ["unicode/utf8.first", "unicode/utf8.acceptRanges", "internal/bytealg.MaxLen", "treillage/name.words"], apart := false, laid := [("unicode/utf8.acceptRanges", laid_unicode_utf8_acceptRanges), ("treillage/name.words", laid_treillage_name_words), ("unicode/utf8.first", laid_unicode_utf8_first)] }
def NameBackSaid : Prop := nameBackRow.holds Tryd.pinned (OpenSpec.ofChange nameBackSpec)

/-- ITS FALSE NEIGHBOUR: 'it returns false'. Refute it at one input. -/
def nameBackWrong : ChangeSpec := { name := "nameBack", fn := fun _ => fun
  | [d1, d2] => { results := [.lit (.bool false)], args := [d1, d2] }
  | _ => none }
def NameBackWrongFalsely : Prop := nameBackRow.holds Tryd.pinned (OpenSpec.ofChange nameBackWrong)

/- THE SECOND FORM. 'bulk': how many values and letters a reading holds, each counted each time it is reached (what is shared counts as often as it is met; a slice's spare places count too). A statement '..UptoSaid' is the law's where the arguments, and the package variables that the reading takes, are together of bulk at most 1048576: NARROWER than '..Said'. Prove '..Said' where nothing that the law and all that it calls make is longer than what came in: it says more and counts as full. Else prove '..UptoSaid'. A law counts once. -/
mutual
def uptoBulk {H : Type} : DataW H → Nat
  | .lit (.string bytes) => bytes.length + 1
  | .lit _ => 1
  | .nil => 1
  | .ptr d => uptoBulk d + 1
  | .slice elems spare => uptoBulkAll elems + uptoBulkAll spare + 1
  | .agg parts => uptoBulkAll parts + 1
  | .iface _ d => uptoBulk d + 1
  | .map entries => uptoBulkEntries entries + 1
  | .held _ => 1
def uptoBulkAll {H : Type} : List (DataW H) → Nat
  | [] => 0
  | d :: r => uptoBulk d + uptoBulkAll r
def uptoBulkEntries {H : Type} : List (Lit × DataW H) → Nat
  | [] => 0
  | x :: r => uptoBulkEntry x + uptoBulkEntries r
def uptoBulkEntry {H : Type} : Lit × DataW H → Nat
  | (.string bytes, d) => bytes.length + uptoBulk d + 1
  | (_, d) => uptoBulk d + 1
 end
def uptoSmall : (H : Type) → List (DataW H) → Bool := fun _ ds => decide (uptoBulkAll ds ≤ 1048576)
def OpenSpec.upto (s : _root_.Go.ChangeSpec) : _root_.Go.OpenSpec := { _root_.Go.OpenSpec.ofChange s with cond := some uptoSmall }

/-- 'treillagelaw12.TokenNext', WHERE WHAT IT READS IS OF BULK AT MOST 1048576: true; the input reads as it did. -/
def tokenNextUptoRow : OpenClaim := { program := "yteonbgknmpobpaadoor", sum := "a67386f85b0c66dd7de73318e9ff7b4cf4fadb6276463e7a469ebc4046c4e00e", func := "treillage/treillagelaw12.TokenNext", spec := "tokenNext", inPlace := ["internal/bytealg.IndexByteString"], unfollowed := true, recurses := true, named := ["treillage/token.signs", "treillage/name.words"], apart := false, laid := [("treillage/name.words", laid_treillage_name_words), ("treillage/token.signs", laid_treillage_token_signs)], narrowed := true }
def TokenNextUptoSaid : Prop := tokenNextUptoRow.holds Tryd.pinned (OpenSpec.upto tokenNextSpec)

/-- 'treillagelaw12.TokenLex', WHERE WHAT IT READS IS OF BULK AT MOST 1048576: true; the input reads as it did. -/
def tokenLexUptoRow : OpenClaim := { program := "yteonbgknmpobpaadoor", sum := "a67386f85b0c66dd7de73318e9ff7b4cf4fadb6276463e7a469ebc4046c4e00e", func := "treillage/treillagelaw12.TokenLex", spec := "tokenLex", inPlace := ["internal/bytealg.IndexByteString"], unfollowed := true, recurses := true, named := ["treillage/token.signs", "treillage/name.words"], apart := false, laid := [("treillage/name.words", laid_treillage_name_words), ("treillage/token.signs", laid_treillage_token_signs)], narrowed := true }
def TokenLexUptoSaid : Prop := tokenLexUptoRow.holds Tryd.pinned (OpenSpec.upto tokenLexSpec)

/-- 'treillagelaw12.TokenQuotes', WHERE WHAT IT READS IS OF BULK AT MOST 1048576: true; the input reads as it did. -/
def tokenQuotesUptoRow : OpenClaim := { program := "yteonbgknmpobpaadoor", sum := "a67386f85b0c66dd7de73318e9ff7b4cf4fadb6276463e7a469ebc4046c4e00e", func := "treillage/treillagelaw12.TokenQuotes", spec := "tokenQuotes", inPlace := ["internal/bytealg.IndexByteString"], unfollowed := true, recurses := true, named := ["treillage/token.signs", "treillage/name.words"], apart := false, laid := [("treillage/name.words", laid_treillage_name_words), ("treillage/token.signs", laid_treillage_token_signs)], narrowed := true }
def TokenQuotesUptoSaid : Prop := tokenQuotesUptoRow.holds Tryd.pinned (OpenSpec.upto tokenQuotesSpec)

/-- 'treillagelaw02.NameRights', WHERE WHAT IT READS IS OF BULK AT MOST 1048576: true; the input reads as it did. -/
def nameRightsUptoRow : OpenClaim := { program := "yteonbgknmpobpaadoor", sum := "a67386f85b0c66dd7de73318e9ff7b4cf4fadb6276463e7a469ebc4046c4e00e", func := "treillage/treillagelaw02.NameRights", spec := "nameRights", inPlace := ["internal/bytealg.CountString", "internal/bytealg.IndexByteString", "internal/bytealg.IndexString"], named := ["unicode/utf8.first", "unicode/utf8.acceptRanges", "internal/bytealg.MaxLen", "treillage/name.words"], apart := false, laid := [("unicode/utf8.acceptRanges", laid_unicode_utf8_acceptRanges), ("treillage/name.words", laid_treillage_name_words), ("unicode/utf8.first", laid_unicode_utf8_first)], narrowed := true }
def NameRightsUptoSaid : Prop := nameRightsUptoRow.holds Tryd.pinned (OpenSpec.upto nameRightsSpec)

/-- 'treillagelaw02.NameSplits', WHERE WHAT IT READS IS OF BULK AT MOST 1048576: true; the input reads as it did. -/
def nameSplitsUptoRow : OpenClaim := { program := "yteonbgknmpobpaadoor", sum := "a67386f85b0c66dd7de73318e9ff7b4cf4fadb6276463e7a469ebc4046c4e00e", func := "treillage/treillagelaw02.NameSplits", spec := "nameSplits", inPlace := ["internal/bytealg.CountString", "internal/bytealg.IndexByteString", "internal/bytealg.IndexString", "internal/abi.NoEscape", "internal/bytealg.MakeNoZero"], named := ["unicode/utf8.first", "unicode/utf8.acceptRanges", "internal/bytealg.MaxLen", "treillage/name.words"], apart := false, laid := [("unicode/utf8.acceptRanges", laid_unicode_utf8_acceptRanges), ("treillage/name.words", laid_treillage_name_words), ("unicode/utf8.first", laid_unicode_utf8_first)], narrowed := true }
def NameSplitsUptoSaid : Prop := nameSplitsUptoRow.holds Tryd.pinned (OpenSpec.upto nameSplitsSpec)

/-- 'treillagelaw02.NameBack', WHERE WHAT IT READS IS OF BULK AT MOST 1048576: true; the input reads as it did. -/
def nameBackUptoRow : OpenClaim := { program := "yteonbgknmpobpaadoor", sum := "a67386f85b0c66dd7de73318e9ff7b4cf4fadb6276463e7a469ebc4046c4e00e", func := "treillage/treillagelaw02.NameBack", spec := "nameBack", inPlace := ["internal/bytealg.CountString", "internal/bytealg.IndexByteString", "internal/bytealg.IndexString", "internal/abi.NoEscape", "internal/bytealg.MakeNoZero"], named := ["unicode/utf8.first", "unicode/utf8.acceptRanges", "internal/bytealg.MaxLen", "treillage/name.words"], apart := false, laid := [("unicode/utf8.acceptRanges", laid_unicode_utf8_acceptRanges), ("treillage/name.words", laid_treillage_name_words), ("unicode/utf8.first", laid_unicode_utf8_first)], narrowed := true }
def NameBackUptoSaid : Prop := nameBackUptoRow.holds Tryd.pinned (OpenSpec.upto nameBackSpec)

end Rows
end Go.Proofs.YteonbgknmpobpaaDoor
