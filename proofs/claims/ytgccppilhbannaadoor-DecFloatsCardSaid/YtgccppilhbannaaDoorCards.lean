/-
  DERIVED. GIVEN WITH THE SEED: THE CARDS: each row of YtgccppilhbannaaDoorRows.lean that lists a variable, with what it lists TIED to the program's text (the seventh form; the later family's looks); each row that meets fmt, with fmt's text TOLD by the authors' own Lean function (tested against real Go, not proved from fmt's source: count such statements apart). THE CARD IS WHAT COUNTS. Prove the row's statement (the work); the ties are given (YtgccppilhbannaaDoorTie.lean); close each card by the builder's one call (the guide's Derived/Test/ToyasCard.lean, 'card_holds'). Laid BY PROGRAM, IN A SANDBOX (cutbox-door.mjs). By AI agents, Wed Nov 11 2026. No macro, syntax, notation, axiom, sorry.
-/
import Derived.Test.YtgccppilhbannaaDoorRows
import GoSem.ClaimSeven
namespace Go.Proofs.YtgccppilhbannaaDoor
namespace Rows

/-- THE TIED CARD OF 'vernacularlaw03.DecTexts'. -/
def decTextsCard : Claim7 := { stood := { row := decTextsRow, standIns := [], harness := (true, "dc5f4b531dc50c0b85970fe888739fbf95e98f25d31d71d1c106ccee5696fece"), looks := false }, kinds := [], alts := [], laidByText := true, laidKinds := [.data, .pinned], laidTests := true, laidLooks := .later }
def DecTextsCardSaid : Prop := Claim7.holds Tryd.pinned (.plain (OpenSpec.ofChange decTextsSpec)) decTextsCard

/-- THE TIED CARD OF 'vernacularlaw03.DecOperands'. -/
def decOperandsCard : Claim7 := { stood := { row := decOperandsRow, standIns := [], harness := (true, "dc5f4b531dc50c0b85970fe888739fbf95e98f25d31d71d1c106ccee5696fece"), looks := false }, kinds := [], alts := [], laidByText := true, laidKinds := [.data, .pinned], laidTests := true, laidLooks := .later }
def DecOperandsCardSaid : Prop := Claim7.holds Tryd.pinned (.plain (OpenSpec.ofChange decOperandsSpec)) decOperandsCard

/-- THE TIED CARD OF 'vernacularlaw03.DecRounds'. -/
def decRoundsCard : Claim7 := { stood := { row := decRoundsRow, standIns := [], harness := (true, "dc5f4b531dc50c0b85970fe888739fbf95e98f25d31d71d1c106ccee5696fece"), looks := false }, kinds := [], alts := [], laidByText := true, laidKinds := [.data, .pinned], laidTests := true, laidLooks := .later }
def DecRoundsCardSaid : Prop := Claim7.holds Tryd.pinned (.plain (OpenSpec.ofChange decRoundsSpec)) decRoundsCard

/-- THE TIED CARD OF 'vernacularlaw03.DecSums'. -/
def decSumsCard : Claim7 := { stood := { row := decSumsRow, standIns := [], harness := (true, "dc5f4b531dc50c0b85970fe888739fbf95e98f25d31d71d1c106ccee5696fece"), looks := false }, kinds := [], alts := [], laidByText := true, laidKinds := [.data, .pinned], laidTests := true, laidLooks := .later }
def DecSumsCardSaid : Prop := Claim7.holds Tryd.pinned (.plain (OpenSpec.ofChange decSumsSpec)) decSumsCard

/-- THE TIED CARD OF 'vernacularlaw03.DecRing'. -/
def decRingCard : Claim7 := { stood := { row := decRingRow, standIns := [], harness := (true, "dc5f4b531dc50c0b85970fe888739fbf95e98f25d31d71d1c106ccee5696fece"), looks := false }, kinds := [], alts := [], laidByText := true, laidKinds := [.data, .pinned], laidTests := true, laidLooks := .later }
def DecRingCardSaid : Prop := Claim7.holds Tryd.pinned (.plain (OpenSpec.ofChange decRingSpec)) decRingCard

/-- THE TIED CARD OF 'vernacularlaw03.DecBack'. -/
def decBackCard : Claim7 := { stood := { row := decBackRow, standIns := [], harness := (true, "dc5f4b531dc50c0b85970fe888739fbf95e98f25d31d71d1c106ccee5696fece"), looks := false }, kinds := [], alts := [], laidByText := true, laidKinds := [.data, .pinned], laidTests := true, laidLooks := .later }
def DecBackCardSaid : Prop := Claim7.holds Tryd.pinned (.plain (OpenSpec.ofChange decBackSpec)) decBackCard

/-- THE TIED CARD OF 'vernacularlaw03.DecOne'. -/
def decOneCard : Claim7 := { stood := { row := decOneRow, standIns := [], harness := (true, "dc5f4b531dc50c0b85970fe888739fbf95e98f25d31d71d1c106ccee5696fece"), looks := false }, kinds := [], alts := [], laidByText := true, laidKinds := [.data, .data, .data, .data, .pinned], laidTests := true, laidLooks := .later }
def DecOneCardSaid : Prop := Claim7.holds Tryd.pinned (.plain (OpenSpec.ofChange decOneSpec)) decOneCard

/-- THE TIED CARD OF 'vernacularlaw03.DecFloats'. -/
def decFloatsCard : Claim7 := { stood := { row := decFloatsRow, standIns := [], harness := (true, "dc5f4b531dc50c0b85970fe888739fbf95e98f25d31d71d1c106ccee5696fece"), looks := false }, kinds := [], alts := [], laidByText := true, laidKinds := [.data, .data, .data, .data, .pinned], laidTests := true, laidLooks := .later }
def DecFloatsCardSaid : Prop := Claim7.holds Tryd.pinned (.plain (OpenSpec.ofChange decFloatsSpec)) decFloatsCard

/-- THE TIED CARD OF 'vernacularlaw03.DecNear'. -/
def decNearCard : Claim7 := { stood := { row := decNearRow, standIns := [], harness := (true, "dc5f4b531dc50c0b85970fe888739fbf95e98f25d31d71d1c106ccee5696fece"), looks := false }, kinds := [], alts := [], laidByText := true, laidKinds := [.data, .data, .data, .data, .pinned], laidTests := true, laidLooks := .later }
def DecNearCardSaid : Prop := Claim7.holds Tryd.pinned (.plain (OpenSpec.ofChange decNearSpec)) decNearCard

/-- THE SECOND FORM's CARD OF 'vernacularlaw03.DecTexts'. -/
def decTextsUptoCard : Claim7 := { stood := { row := decTextsUptoRow, standIns := [], harness := (true, "dc5f4b531dc50c0b85970fe888739fbf95e98f25d31d71d1c106ccee5696fece"), looks := false }, kinds := [], alts := [], laidByText := true, laidKinds := [.data, .pinned], laidTests := true, laidLooks := .later }
def DecTextsUptoCardSaid : Prop := Claim7.holds Tryd.pinned (.plain (OpenSpec.upto decTextsSpec)) decTextsUptoCard

/-- THE SECOND FORM's CARD OF 'vernacularlaw03.DecOperands'. -/
def decOperandsUptoCard : Claim7 := { stood := { row := decOperandsUptoRow, standIns := [], harness := (true, "dc5f4b531dc50c0b85970fe888739fbf95e98f25d31d71d1c106ccee5696fece"), looks := false }, kinds := [], alts := [], laidByText := true, laidKinds := [.data, .pinned], laidTests := true, laidLooks := .later }
def DecOperandsUptoCardSaid : Prop := Claim7.holds Tryd.pinned (.plain (OpenSpec.upto decOperandsSpec)) decOperandsUptoCard

/-- THE SECOND FORM's CARD OF 'vernacularlaw03.DecRounds'. -/
def decRoundsUptoCard : Claim7 := { stood := { row := decRoundsUptoRow, standIns := [], harness := (true, "dc5f4b531dc50c0b85970fe888739fbf95e98f25d31d71d1c106ccee5696fece"), looks := false }, kinds := [], alts := [], laidByText := true, laidKinds := [.data, .pinned], laidTests := true, laidLooks := .later }
def DecRoundsUptoCardSaid : Prop := Claim7.holds Tryd.pinned (.plain (OpenSpec.upto decRoundsSpec)) decRoundsUptoCard

/-- THE SECOND FORM's CARD OF 'vernacularlaw03.DecSums'. -/
def decSumsUptoCard : Claim7 := { stood := { row := decSumsUptoRow, standIns := [], harness := (true, "dc5f4b531dc50c0b85970fe888739fbf95e98f25d31d71d1c106ccee5696fece"), looks := false }, kinds := [], alts := [], laidByText := true, laidKinds := [.data, .pinned], laidTests := true, laidLooks := .later }
def DecSumsUptoCardSaid : Prop := Claim7.holds Tryd.pinned (.plain (OpenSpec.upto decSumsSpec)) decSumsUptoCard

/-- THE SECOND FORM's CARD OF 'vernacularlaw03.DecRing'. -/
def decRingUptoCard : Claim7 := { stood := { row := decRingUptoRow, standIns := [], harness := (true, "dc5f4b531dc50c0b85970fe888739fbf95e98f25d31d71d1c106ccee5696fece"), looks := false }, kinds := [], alts := [], laidByText := true, laidKinds := [.data, .pinned], laidTests := true, laidLooks := .later }
def DecRingUptoCardSaid : Prop := Claim7.holds Tryd.pinned (.plain (OpenSpec.upto decRingSpec)) decRingUptoCard

/-- THE SECOND FORM's CARD OF 'vernacularlaw03.DecBack'. -/
def decBackUptoCard : Claim7 := { stood := { row := decBackUptoRow, standIns := [], harness := (true, "dc5f4b531dc50c0b85970fe888739fbf95e98f25d31d71d1c106ccee5696fece"), looks := false }, kinds := [], alts := [], laidByText := true, laidKinds := [.data, .pinned], laidTests := true, laidLooks := .later }
def DecBackUptoCardSaid : Prop := Claim7.holds Tryd.pinned (.plain (OpenSpec.upto decBackSpec)) decBackUptoCard

/-- THE SECOND FORM's CARD OF 'vernacularlaw03.DecOne'. -/
def decOneUptoCard : Claim7 := { stood := { row := decOneUptoRow, standIns := [], harness := (true, "dc5f4b531dc50c0b85970fe888739fbf95e98f25d31d71d1c106ccee5696fece"), looks := false }, kinds := [], alts := [], laidByText := true, laidKinds := [.data, .data, .data, .data, .pinned], laidTests := true, laidLooks := .later }
def DecOneUptoCardSaid : Prop := Claim7.holds Tryd.pinned (.plain (OpenSpec.upto decOneSpec)) decOneUptoCard

/-- THE SECOND FORM's CARD OF 'vernacularlaw03.DecFloats'. -/
def decFloatsUptoCard : Claim7 := { stood := { row := decFloatsUptoRow, standIns := [], harness := (true, "dc5f4b531dc50c0b85970fe888739fbf95e98f25d31d71d1c106ccee5696fece"), looks := false }, kinds := [], alts := [], laidByText := true, laidKinds := [.data, .data, .data, .data, .pinned], laidTests := true, laidLooks := .later }
def DecFloatsUptoCardSaid : Prop := Claim7.holds Tryd.pinned (.plain (OpenSpec.upto decFloatsSpec)) decFloatsUptoCard

/-- THE SECOND FORM's CARD OF 'vernacularlaw03.DecNear'. -/
def decNearUptoCard : Claim7 := { stood := { row := decNearUptoRow, standIns := [], harness := (true, "dc5f4b531dc50c0b85970fe888739fbf95e98f25d31d71d1c106ccee5696fece"), looks := false }, kinds := [], alts := [], laidByText := true, laidKinds := [.data, .data, .data, .data, .pinned], laidTests := true, laidLooks := .later }
def DecNearUptoCardSaid : Prop := Claim7.holds Tryd.pinned (.plain (OpenSpec.upto decNearSpec)) decNearUptoCard
end Rows
end Go.Proofs.YtgccppilhbannaaDoor
