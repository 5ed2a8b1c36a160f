/-
  DERIVED. GIVEN WITH THE SEED: THE CARDS: each row of YtdihhicjaaekhaaDoorRows.lean that lists a variable, with what it lists TIED to the program's text (the seventh form; the later family's looks); each row that meets fmt, with fmt's text TOLD by the authors' own Lean function (tested against real Go, not proved from fmt's source: count such statements apart). THE CARD IS WHAT COUNTS. Prove the row's statement (the work); the ties are given (YtdihhicjaaekhaaDoorTie.lean); close each card by the builder's one call (the guide's Derived/Test/ToyasCard.lean, 'card_holds'). Laid BY PROGRAM, IN A SANDBOX (cutbox-door.mjs). By AI agents, Wed Nov 11 2026. No macro, syntax, notation, axiom, sorry.
-/
import Derived.Test.YtdihhicjaaekhaaDoorRows
import GoSem.ClaimSeven
namespace Go.Proofs.YtdihhicjaaekhaaDoor
namespace Rows

/-- THE TIED CARD OF 'vernacularlaw02.UtfWalks'. -/
def utfWalksCard : Claim7 := { stood := { row := utfWalksRow, standIns := [], harness := (true, "4c94918fd62c52720ffc37c6d5f9399701a6cb53bc017563e6dc80fb7edeacbc"), looks := false }, kinds := [], alts := [], laidByText := true, laidKinds := [.data, .pinned], laidTests := true, laidLooks := .later }
def UtfWalksCardSaid : Prop := Claim7.holds Tryd.pinned (.plain (OpenSpec.ofChange utfWalksSpec)) utfWalksCard

/-- THE TIED CARD OF 'vernacularlaw02.UtfWords'. -/
def utfWordsCard : Claim7 := { stood := { row := utfWordsRow, standIns := [], harness := (true, "4c94918fd62c52720ffc37c6d5f9399701a6cb53bc017563e6dc80fb7edeacbc"), looks := false }, kinds := [], alts := [], laidByText := true, laidKinds := [.data, .pinned], laidTests := true, laidLooks := .later }
def UtfWordsCardSaid : Prop := Claim7.holds Tryd.pinned (.plain (OpenSpec.ofChange utfWordsSpec)) utfWordsCard

/-- THE TIED CARD OF 'vernacularlaw02.UtfKinds'. -/
def utfKindsCard : Claim7 := { stood := { row := utfKindsRow, standIns := [], harness := (true, "4c94918fd62c52720ffc37c6d5f9399701a6cb53bc017563e6dc80fb7edeacbc"), looks := false }, kinds := [], alts := [], laidByText := true, laidKinds := [.data, .pinned], laidTests := true, laidLooks := .later }
def UtfKindsCardSaid : Prop := Claim7.holds Tryd.pinned (.plain (OpenSpec.ofChange utfKindsSpec)) utfKindsCard

/-- THE TIED CARD OF 'vernacularlaw02.UtfPieces'. -/
def utfPiecesCard : Claim7 := { stood := { row := utfPiecesRow, standIns := [], harness := (true, "4c94918fd62c52720ffc37c6d5f9399701a6cb53bc017563e6dc80fb7edeacbc"), looks := false }, kinds := [], alts := [], laidByText := true, laidKinds := [.data, .pinned], laidTests := true, laidLooks := .later }
def UtfPiecesCardSaid : Prop := Claim7.holds Tryd.pinned (.plain (OpenSpec.ofChange utfPiecesSpec)) utfPiecesCard

/-- THE TIED CARD OF 'vernacularlaw02.UtfRange'. -/
def utfRangeCard : Claim7 := { stood := { row := utfRangeRow, standIns := [], harness := (true, "4c94918fd62c52720ffc37c6d5f9399701a6cb53bc017563e6dc80fb7edeacbc"), looks := false }, kinds := [], alts := [], laidByText := true, laidKinds := [.data, .pinned], laidTests := true, laidLooks := .later }
def UtfRangeCardSaid : Prop := Claim7.holds Tryd.pinned (.plain (OpenSpec.ofChange utfRangeSpec)) utfRangeCard

/-- THE TIED CARD OF 'vernacularlaw02.UtfFields'. -/
def utfFieldsCard : Claim7 := { stood := { row := utfFieldsRow, standIns := [], harness := (true, "4c94918fd62c52720ffc37c6d5f9399701a6cb53bc017563e6dc80fb7edeacbc"), looks := false }, kinds := [], alts := [], laidByText := true, laidKinds := [.data, .pinned], laidTests := true, laidLooks := .later }
def UtfFieldsCardSaid : Prop := Claim7.holds Tryd.pinned (.plain (OpenSpec.ofChange utfFieldsSpec)) utfFieldsCard

/-- THE TIED CARD OF 'vernacularlaw02.UtfTrims'. -/
def utfTrimsCard : Claim7 := { stood := { row := utfTrimsRow, standIns := [], harness := (true, "4c94918fd62c52720ffc37c6d5f9399701a6cb53bc017563e6dc80fb7edeacbc"), looks := false }, kinds := [], alts := [], laidByText := true, laidKinds := [.data, .pinned], laidTests := true, laidLooks := .later }
def UtfTrimsCardSaid : Prop := Claim7.holds Tryd.pinned (.plain (OpenSpec.ofChange utfTrimsSpec)) utfTrimsCard

/-- THE TIED CARD OF 'vernacularlaw02.UtfCases'. -/
def utfCasesCard : Claim7 := { stood := { row := utfCasesRow, standIns := [], harness := (true, "4c94918fd62c52720ffc37c6d5f9399701a6cb53bc017563e6dc80fb7edeacbc"), looks := false }, kinds := [], alts := [], laidByText := true, laidKinds := [.data, .pinned], laidTests := true, laidLooks := .later }
def UtfCasesCardSaid : Prop := Claim7.holds Tryd.pinned (.plain (OpenSpec.ofChange utfCasesSpec)) utfCasesCard

/-- THE SECOND FORM's CARD OF 'vernacularlaw02.UtfWalks'. -/
def utfWalksUptoCard : Claim7 := { stood := { row := utfWalksUptoRow, standIns := [], harness := (true, "4c94918fd62c52720ffc37c6d5f9399701a6cb53bc017563e6dc80fb7edeacbc"), looks := false }, kinds := [], alts := [], laidByText := true, laidKinds := [.data, .pinned], laidTests := true, laidLooks := .later }
def UtfWalksUptoCardSaid : Prop := Claim7.holds Tryd.pinned (.plain (OpenSpec.upto utfWalksSpec)) utfWalksUptoCard

/-- THE SECOND FORM's CARD OF 'vernacularlaw02.UtfWords'. -/
def utfWordsUptoCard : Claim7 := { stood := { row := utfWordsUptoRow, standIns := [], harness := (true, "4c94918fd62c52720ffc37c6d5f9399701a6cb53bc017563e6dc80fb7edeacbc"), looks := false }, kinds := [], alts := [], laidByText := true, laidKinds := [.data, .pinned], laidTests := true, laidLooks := .later }
def UtfWordsUptoCardSaid : Prop := Claim7.holds Tryd.pinned (.plain (OpenSpec.upto utfWordsSpec)) utfWordsUptoCard

/-- THE SECOND FORM's CARD OF 'vernacularlaw02.UtfKinds'. -/
def utfKindsUptoCard : Claim7 := { stood := { row := utfKindsUptoRow, standIns := [], harness := (true, "4c94918fd62c52720ffc37c6d5f9399701a6cb53bc017563e6dc80fb7edeacbc"), looks := false }, kinds := [], alts := [], laidByText := true, laidKinds := [.data, .pinned], laidTests := true, laidLooks := .later }
def UtfKindsUptoCardSaid : Prop := Claim7.holds Tryd.pinned (.plain (OpenSpec.upto utfKindsSpec)) utfKindsUptoCard

/-- THE SECOND FORM's CARD OF 'vernacularlaw02.UtfPieces'. -/
def utfPiecesUptoCard : Claim7 := { stood := { row := utfPiecesUptoRow, standIns := [], harness := (true, "4c94918fd62c52720ffc37c6d5f9399701a6cb53bc017563e6dc80fb7edeacbc"), looks := false }, kinds := [], alts := [], laidByText := true, laidKinds := [.data, .pinned], laidTests := true, laidLooks := .later }
def UtfPiecesUptoCardSaid : Prop := Claim7.holds Tryd.pinned (.plain (OpenSpec.upto utfPiecesSpec)) utfPiecesUptoCard

/-- THE SECOND FORM's CARD OF 'vernacularlaw02.UtfRange'. -/
def utfRangeUptoCard : Claim7 := { stood := { row := utfRangeUptoRow, standIns := [], harness := (true, "4c94918fd62c52720ffc37c6d5f9399701a6cb53bc017563e6dc80fb7edeacbc"), looks := false }, kinds := [], alts := [], laidByText := true, laidKinds := [.data, .pinned], laidTests := true, laidLooks := .later }
def UtfRangeUptoCardSaid : Prop := Claim7.holds Tryd.pinned (.plain (OpenSpec.upto utfRangeSpec)) utfRangeUptoCard

/-- THE SECOND FORM's CARD OF 'vernacularlaw02.UtfFields'. -/
def utfFieldsUptoCard : Claim7 := { stood := { row := utfFieldsUptoRow, standIns := [], harness := (true, "4c94918fd62c52720ffc37c6d5f9399701a6cb53bc017563e6dc80fb7edeacbc"), looks := false }, kinds := [], alts := [], laidByText := true, laidKinds := [.data, .pinned], laidTests := true, laidLooks := .later }
def UtfFieldsUptoCardSaid : Prop := Claim7.holds Tryd.pinned (.plain (OpenSpec.upto utfFieldsSpec)) utfFieldsUptoCard

/-- THE SECOND FORM's CARD OF 'vernacularlaw02.UtfTrims'. -/
def utfTrimsUptoCard : Claim7 := { stood := { row := utfTrimsUptoRow, standIns := [], harness := (true, "4c94918fd62c52720ffc37c6d5f9399701a6cb53bc017563e6dc80fb7edeacbc"), looks := false }, kinds := [], alts := [], laidByText := true, laidKinds := [.data, .pinned], laidTests := true, laidLooks := .later }
def UtfTrimsUptoCardSaid : Prop := Claim7.holds Tryd.pinned (.plain (OpenSpec.upto utfTrimsSpec)) utfTrimsUptoCard

/-- THE SECOND FORM's CARD OF 'vernacularlaw02.UtfCases'. -/
def utfCasesUptoCard : Claim7 := { stood := { row := utfCasesUptoRow, standIns := [], harness := (true, "4c94918fd62c52720ffc37c6d5f9399701a6cb53bc017563e6dc80fb7edeacbc"), looks := false }, kinds := [], alts := [], laidByText := true, laidKinds := [.data, .pinned], laidTests := true, laidLooks := .later }
def UtfCasesUptoCardSaid : Prop := Claim7.holds Tryd.pinned (.plain (OpenSpec.upto utfCasesSpec)) utfCasesUptoCard
end Rows
end Go.Proofs.YtdihhicjaaekhaaDoor
