/-
  DERIVED. GIVEN WITH THE SEED: THE CARDS: each row of YteonbgknmpobpaaDoorRows.lean that lists a variable, with what it lists TIED to the program's text (the seventh form; the later family's looks); each row that meets fmt, with fmt's text TOLD by the authors' own Lean function (tested against real Go, not proved from fmt's source: count such statements apart). THE CARD IS WHAT COUNTS. Prove the row's statement (the work); the ties are given (YteonbgknmpobpaaDoorTie.lean); close each card by the builder's one call (the guide's Derived/Test/ToyasCard.lean, 'card_holds'). Laid BY PROGRAM, IN A SANDBOX (cutbox-door.mjs). By AI agents, Wed Nov 11 2026. No macro, syntax, notation, axiom, sorry.
-/
import Derived.Test.YteonbgknmpobpaaDoorRows
import GoSem.ClaimSeven
namespace Go.Proofs.YteonbgknmpobpaaDoor
namespace Rows

/-- THE TIED CARD OF 'treillagelaw12.TokenNext'. -/
def tokenNextCard : Claim7 := { stood := { row := tokenNextRow, standIns := [], harness := (true, "1f0854abd704109216b7c5f069862ca2dc5c96a3aeef41591765d1c4ba1f438c"), looks := false }, kinds := [], alts := [], laidByText := true, laidKinds := [.data, .data], laidTests := true, laidLooks := .later }
def TokenNextCardSaid : Prop := Claim7.holds Tryd.pinned (.plain (OpenSpec.ofChange tokenNextSpec)) tokenNextCard

/-- THE TIED CARD OF 'treillagelaw12.TokenLex'. -/
def tokenLexCard : Claim7 := { stood := { row := tokenLexRow, standIns := [], harness := (true, "1f0854abd704109216b7c5f069862ca2dc5c96a3aeef41591765d1c4ba1f438c"), looks := false }, kinds := [], alts := [], laidByText := true, laidKinds := [.data, .data], laidTests := true, laidLooks := .later }
def TokenLexCardSaid : Prop := Claim7.holds Tryd.pinned (.plain (OpenSpec.ofChange tokenLexSpec)) tokenLexCard

/-- THE TIED CARD OF 'treillagelaw12.TokenQuotes'. -/
def tokenQuotesCard : Claim7 := { stood := { row := tokenQuotesRow, standIns := [], harness := (true, "1f0854abd704109216b7c5f069862ca2dc5c96a3aeef41591765d1c4ba1f438c"), looks := false }, kinds := [], alts := [], laidByText := true, laidKinds := [.data, .data], laidTests := true, laidLooks := .later }
def TokenQuotesCardSaid : Prop := Claim7.holds Tryd.pinned (.plain (OpenSpec.ofChange tokenQuotesSpec)) tokenQuotesCard

/-- THE TIED CARD OF 'treillagelaw02.NameRights'. -/
def nameRightsCard : Claim7 := { stood := { row := nameRightsRow, standIns := [], harness := (true, "1f0854abd704109216b7c5f069862ca2dc5c96a3aeef41591765d1c4ba1f438c"), looks := false }, kinds := [], alts := [], laidByText := true, laidKinds := [.data, .data, .pinned], laidTests := true, laidLooks := .later }
def NameRightsCardSaid : Prop := Claim7.holds Tryd.pinned (.plain (OpenSpec.ofChange nameRightsSpec)) nameRightsCard

/-- THE TIED CARD OF 'treillagelaw02.NameSplits'. -/
def nameSplitsCard : Claim7 := { stood := { row := nameSplitsRow, standIns := [], harness := (true, "1f0854abd704109216b7c5f069862ca2dc5c96a3aeef41591765d1c4ba1f438c"), looks := false }, kinds := [], alts := [], laidByText := true, laidKinds := [.data, .data, .pinned], laidTests := true, laidLooks := .later }
def NameSplitsCardSaid : Prop := Claim7.holds Tryd.pinned (.plain (OpenSpec.ofChange nameSplitsSpec)) nameSplitsCard

/-- THE TIED CARD OF 'treillagelaw02.NameBack'. -/
def nameBackCard : Claim7 := { stood := { row := nameBackRow, standIns := [], harness := (true, "1f0854abd704109216b7c5f069862ca2dc5c96a3aeef41591765d1c4ba1f438c"), looks := false }, kinds := [], alts := [], laidByText := true, laidKinds := [.data, .data, .pinned], laidTests := true, laidLooks := .later }
def NameBackCardSaid : Prop := Claim7.holds Tryd.pinned (.plain (OpenSpec.ofChange nameBackSpec)) nameBackCard

/-- THE SECOND FORM's CARD OF 'treillagelaw12.TokenNext'. -/
def tokenNextUptoCard : Claim7 := { stood := { row := tokenNextUptoRow, standIns := [], harness := (true, "1f0854abd704109216b7c5f069862ca2dc5c96a3aeef41591765d1c4ba1f438c"), looks := false }, kinds := [], alts := [], laidByText := true, laidKinds := [.data, .data], laidTests := true, laidLooks := .later }
def TokenNextUptoCardSaid : Prop := Claim7.holds Tryd.pinned (.plain (OpenSpec.upto tokenNextSpec)) tokenNextUptoCard

/-- THE SECOND FORM's CARD OF 'treillagelaw12.TokenLex'. -/
def tokenLexUptoCard : Claim7 := { stood := { row := tokenLexUptoRow, standIns := [], harness := (true, "1f0854abd704109216b7c5f069862ca2dc5c96a3aeef41591765d1c4ba1f438c"), looks := false }, kinds := [], alts := [], laidByText := true, laidKinds := [.data, .data], laidTests := true, laidLooks := .later }
def TokenLexUptoCardSaid : Prop := Claim7.holds Tryd.pinned (.plain (OpenSpec.upto tokenLexSpec)) tokenLexUptoCard

/-- THE SECOND FORM's CARD OF 'treillagelaw12.TokenQuotes'. -/
def tokenQuotesUptoCard : Claim7 := { stood := { row := tokenQuotesUptoRow, standIns := [], harness := (true, "1f0854abd704109216b7c5f069862ca2dc5c96a3aeef41591765d1c4ba1f438c"), looks := false }, kinds := [], alts := [], laidByText := true, laidKinds := [.data, .data], laidTests := true, laidLooks := .later }
def TokenQuotesUptoCardSaid : Prop := Claim7.holds Tryd.pinned (.plain (OpenSpec.upto tokenQuotesSpec)) tokenQuotesUptoCard

/-- THE SECOND FORM's CARD OF 'treillagelaw02.NameRights'. -/
def nameRightsUptoCard : Claim7 := { stood := { row := nameRightsUptoRow, standIns := [], harness := (true, "1f0854abd704109216b7c5f069862ca2dc5c96a3aeef41591765d1c4ba1f438c"), looks := false }, kinds := [], alts := [], laidByText := true, laidKinds := [.data, .data, .pinned], laidTests := true, laidLooks := .later }
def NameRightsUptoCardSaid : Prop := Claim7.holds Tryd.pinned (.plain (OpenSpec.upto nameRightsSpec)) nameRightsUptoCard

/-- THE SECOND FORM's CARD OF 'treillagelaw02.NameSplits'. -/
def nameSplitsUptoCard : Claim7 := { stood := { row := nameSplitsUptoRow, standIns := [], harness := (true, "1f0854abd704109216b7c5f069862ca2dc5c96a3aeef41591765d1c4ba1f438c"), looks := false }, kinds := [], alts := [], laidByText := true, laidKinds := [.data, .data, .pinned], laidTests := true, laidLooks := .later }
def NameSplitsUptoCardSaid : Prop := Claim7.holds Tryd.pinned (.plain (OpenSpec.upto nameSplitsSpec)) nameSplitsUptoCard

/-- THE SECOND FORM's CARD OF 'treillagelaw02.NameBack'. -/
def nameBackUptoCard : Claim7 := { stood := { row := nameBackUptoRow, standIns := [], harness := (true, "1f0854abd704109216b7c5f069862ca2dc5c96a3aeef41591765d1c4ba1f438c"), looks := false }, kinds := [], alts := [], laidByText := true, laidKinds := [.data, .data, .pinned], laidTests := true, laidLooks := .later }
def NameBackUptoCardSaid : Prop := Claim7.holds Tryd.pinned (.plain (OpenSpec.upto nameBackSpec)) nameBackUptoCard
end Rows
end Go.Proofs.YteonbgknmpobpaaDoor
