/-
  DERIVED. GIVEN WITH THE SEED: THE CARDS: each row of YtgbemhehbhlgpaaGreatDoorRows.lean that lists a variable, with what it lists TIED to the program's text (the seventh form; the later family's looks); each row that meets fmt, with fmt's text TOLD by the authors' own Lean function (tested against real Go, not proved from fmt's source: count such statements apart). THE CARD IS WHAT COUNTS. Prove the row's statement (the work); the ties are given (YtgbemhehbhlgpaaGreatDoorTie.lean); close each card by the builder's one call (the guide's Derived/Test/ToyasCard.lean, 'card_holds'). Laid BY PROGRAM, IN A SANDBOX (cutbox-door.mjs). By AI agents, Wed Nov 11 2026. No macro, syntax, notation, axiom, sorry.
-/
import Derived.Test.YtgbemhehbhlgpaaGreatDoorRows
import GoSem.ClaimSeven
namespace Go.Proofs.YtgbemhehbhlgpaaGreatDoor
namespace Rows

/-- THE TIED CARD OF 'vernacularlaw15.PluralNames'. -/
def pluralNamesCard : Claim7 := { stood := { row := pluralNamesRow, standIns := [], harness := (true, "848e6db517a85bc4fa9d812f36ad93966d99b9c9b1442a5aac5cb5cb5fd39e3a"), looks := true }, kinds := [], alts := [], laidByText := true, laidKinds := [.data, .data, .data, .data, .sentinel, .sentinel, .listed, .data, .pinned], laidTests := true, laidLooks := .later }
def PluralNamesCardSaid : Prop := Claim7.holds Tryz.pinned (.plain (OpenSpec.ofChange pluralNamesSpec)) pluralNamesCard

/-- THE TIED CARD OF 'vernacularlaw15.PluralSets'. -/
def pluralSetsCard : Claim7 := { stood := { row := pluralSetsRow, standIns := [], harness := (true, "848e6db517a85bc4fa9d812f36ad93966d99b9c9b1442a5aac5cb5cb5fd39e3a"), looks := true }, kinds := [], alts := [], laidByText := true, laidKinds := [.data, .data, .data, .data, .sentinel, .sentinel, .listed, .data, .pinned], laidTests := true, laidLooks := .later }
def PluralSetsCardSaid : Prop := Claim7.holds Tryz.pinned (.plain (OpenSpec.ofChange pluralSetsSpec)) pluralSetsCard

/-- THE TIED CARD OF 'vernacularlaw15.PluralHolds'. -/
def pluralHoldsCard : Claim7 := { stood := { row := pluralHoldsRow, standIns := [], harness := (true, "848e6db517a85bc4fa9d812f36ad93966d99b9c9b1442a5aac5cb5cb5fd39e3a"), looks := true }, kinds := [], alts := [], laidByText := true, laidKinds := [.data, .data, .data, .data, .sentinel, .sentinel, .listed, .data, .pinned], laidTests := true, laidLooks := .later }
def PluralHoldsCardSaid : Prop := Claim7.holds Tryz.pinned (.plain (OpenSpec.ofChange pluralHoldsSpec)) pluralHoldsCard

/-- THE TIED CARD OF 'vernacularlaw15.PluralParses'. -/
def pluralParsesCard : Claim7 := { stood := { row := pluralParsesRow, standIns := [], harness := (true, "848e6db517a85bc4fa9d812f36ad93966d99b9c9b1442a5aac5cb5cb5fd39e3a"), looks := true }, kinds := [], alts := [], laidByText := true, laidKinds := [.data, .data, .data, .data, .sentinel, .sentinel, .listed, .data, .pinned], laidTests := true, laidLooks := .later }
def PluralParsesCardSaid : Prop := Claim7.holds Tryz.pinned (.plain (OpenSpec.ofChange pluralParsesSpec)) pluralParsesCard

/-- THE TIED CARD OF 'vernacularlaw15.PluralBack'. -/
def pluralBackCard : Claim7 := { stood := { row := pluralBackRow, standIns := [], harness := (true, "848e6db517a85bc4fa9d812f36ad93966d99b9c9b1442a5aac5cb5cb5fd39e3a"), looks := true }, kinds := [], alts := [], laidByText := true, laidKinds := [.data, .data, .data, .data, .sentinel, .sentinel, .listed, .data, .pinned], laidTests := true, laidLooks := .later }
def PluralBackCardSaid : Prop := Claim7.holds Tryz.pinned (.plain (OpenSpec.ofChange pluralBackSpec)) pluralBackCard

/-- THE TIED CARD OF 'vernacularlaw15.PluralJoins'. -/
def pluralJoinsCard : Claim7 := { stood := { row := pluralJoinsRow, standIns := [], harness := (true, "848e6db517a85bc4fa9d812f36ad93966d99b9c9b1442a5aac5cb5cb5fd39e3a"), looks := true }, kinds := [], alts := [], laidByText := true, laidKinds := [.data, .data, .data, .data, .sentinel, .sentinel, .listed, .data, .pinned], laidTests := true, laidLooks := .later }
def PluralJoinsCardSaid : Prop := Claim7.holds Tryz.pinned (.plain (OpenSpec.ofChange pluralJoinsSpec)) pluralJoinsCard

/-- THE TIED CARD OF 'vernacularlaw15.PluralTurned'. -/
def pluralTurnedCard : Claim7 := { stood := { row := pluralTurnedRow, standIns := [], harness := (true, "848e6db517a85bc4fa9d812f36ad93966d99b9c9b1442a5aac5cb5cb5fd39e3a"), looks := true }, kinds := [], alts := [], laidByText := true, laidKinds := [.data, .data, .data, .data, .sentinel, .sentinel, .listed, .data, .pinned], laidTests := true, laidLooks := .later }
def PluralTurnedCardSaid : Prop := Claim7.holds Tryz.pinned (.plain (OpenSpec.ofChange pluralTurnedSpec)) pluralTurnedCard

/-- THE TIED CARD OF 'vernacularlaw15.PluralSigns'. -/
def pluralSignsCard : Claim7 := { stood := { row := pluralSignsRow, standIns := [], harness := (true, "848e6db517a85bc4fa9d812f36ad93966d99b9c9b1442a5aac5cb5cb5fd39e3a"), looks := true }, kinds := [], alts := [], laidByText := true, laidKinds := [.data, .data, .data, .data, .sentinel, .sentinel, .listed, .data, .pinned], laidTests := true, laidLooks := .later }
def PluralSignsCardSaid : Prop := Claim7.holds Tryz.pinned (.plain (OpenSpec.ofChange pluralSignsSpec)) pluralSignsCard

/-- THE SECOND FORM's CARD OF 'vernacularlaw15.PluralNames'. -/
def pluralNamesUptoCard : Claim7 := { stood := { row := pluralNamesUptoRow, standIns := [], harness := (true, "848e6db517a85bc4fa9d812f36ad93966d99b9c9b1442a5aac5cb5cb5fd39e3a"), looks := true }, kinds := [], alts := [], laidByText := true, laidKinds := [.data, .data, .data, .data, .sentinel, .sentinel, .listed, .data, .pinned], laidTests := true, laidLooks := .later }
def PluralNamesUptoCardSaid : Prop := Claim7.holds Tryz.pinned (.plain (OpenSpec.upto pluralNamesSpec)) pluralNamesUptoCard

/-- THE SECOND FORM's CARD OF 'vernacularlaw15.PluralSets'. -/
def pluralSetsUptoCard : Claim7 := { stood := { row := pluralSetsUptoRow, standIns := [], harness := (true, "848e6db517a85bc4fa9d812f36ad93966d99b9c9b1442a5aac5cb5cb5fd39e3a"), looks := true }, kinds := [], alts := [], laidByText := true, laidKinds := [.data, .data, .data, .data, .sentinel, .sentinel, .listed, .data, .pinned], laidTests := true, laidLooks := .later }
def PluralSetsUptoCardSaid : Prop := Claim7.holds Tryz.pinned (.plain (OpenSpec.upto pluralSetsSpec)) pluralSetsUptoCard

/-- THE SECOND FORM's CARD OF 'vernacularlaw15.PluralHolds'. -/
def pluralHoldsUptoCard : Claim7 := { stood := { row := pluralHoldsUptoRow, standIns := [], harness := (true, "848e6db517a85bc4fa9d812f36ad93966d99b9c9b1442a5aac5cb5cb5fd39e3a"), looks := true }, kinds := [], alts := [], laidByText := true, laidKinds := [.data, .data, .data, .data, .sentinel, .sentinel, .listed, .data, .pinned], laidTests := true, laidLooks := .later }
def PluralHoldsUptoCardSaid : Prop := Claim7.holds Tryz.pinned (.plain (OpenSpec.upto pluralHoldsSpec)) pluralHoldsUptoCard

/-- THE SECOND FORM's CARD OF 'vernacularlaw15.PluralParses'. -/
def pluralParsesUptoCard : Claim7 := { stood := { row := pluralParsesUptoRow, standIns := [], harness := (true, "848e6db517a85bc4fa9d812f36ad93966d99b9c9b1442a5aac5cb5cb5fd39e3a"), looks := true }, kinds := [], alts := [], laidByText := true, laidKinds := [.data, .data, .data, .data, .sentinel, .sentinel, .listed, .data, .pinned], laidTests := true, laidLooks := .later }
def PluralParsesUptoCardSaid : Prop := Claim7.holds Tryz.pinned (.plain (OpenSpec.upto pluralParsesSpec)) pluralParsesUptoCard

/-- THE SECOND FORM's CARD OF 'vernacularlaw15.PluralBack'. -/
def pluralBackUptoCard : Claim7 := { stood := { row := pluralBackUptoRow, standIns := [], harness := (true, "848e6db517a85bc4fa9d812f36ad93966d99b9c9b1442a5aac5cb5cb5fd39e3a"), looks := true }, kinds := [], alts := [], laidByText := true, laidKinds := [.data, .data, .data, .data, .sentinel, .sentinel, .listed, .data, .pinned], laidTests := true, laidLooks := .later }
def PluralBackUptoCardSaid : Prop := Claim7.holds Tryz.pinned (.plain (OpenSpec.upto pluralBackSpec)) pluralBackUptoCard

/-- THE SECOND FORM's CARD OF 'vernacularlaw15.PluralJoins'. -/
def pluralJoinsUptoCard : Claim7 := { stood := { row := pluralJoinsUptoRow, standIns := [], harness := (true, "848e6db517a85bc4fa9d812f36ad93966d99b9c9b1442a5aac5cb5cb5fd39e3a"), looks := true }, kinds := [], alts := [], laidByText := true, laidKinds := [.data, .data, .data, .data, .sentinel, .sentinel, .listed, .data, .pinned], laidTests := true, laidLooks := .later }
def PluralJoinsUptoCardSaid : Prop := Claim7.holds Tryz.pinned (.plain (OpenSpec.upto pluralJoinsSpec)) pluralJoinsUptoCard

/-- THE SECOND FORM's CARD OF 'vernacularlaw15.PluralTurned'. -/
def pluralTurnedUptoCard : Claim7 := { stood := { row := pluralTurnedUptoRow, standIns := [], harness := (true, "848e6db517a85bc4fa9d812f36ad93966d99b9c9b1442a5aac5cb5cb5fd39e3a"), looks := true }, kinds := [], alts := [], laidByText := true, laidKinds := [.data, .data, .data, .data, .sentinel, .sentinel, .listed, .data, .pinned], laidTests := true, laidLooks := .later }
def PluralTurnedUptoCardSaid : Prop := Claim7.holds Tryz.pinned (.plain (OpenSpec.upto pluralTurnedSpec)) pluralTurnedUptoCard

/-- THE SECOND FORM's CARD OF 'vernacularlaw15.PluralSigns'. -/
def pluralSignsUptoCard : Claim7 := { stood := { row := pluralSignsUptoRow, standIns := [], harness := (true, "848e6db517a85bc4fa9d812f36ad93966d99b9c9b1442a5aac5cb5cb5fd39e3a"), looks := true }, kinds := [], alts := [], laidByText := true, laidKinds := [.data, .data, .data, .data, .sentinel, .sentinel, .listed, .data, .pinned], laidTests := true, laidLooks := .later }
def PluralSignsUptoCardSaid : Prop := Claim7.holds Tryz.pinned (.plain (OpenSpec.upto pluralSignsSpec)) pluralSignsUptoCard
end Rows
end Go.Proofs.YtgbemhehbhlgpaaGreatDoor
