/-
  DERIVED. GIVEN WITH THE SEED: THE CARDS: each row of YtnmpbphnfiiafaaGreatDoorRows.lean that lists a variable, with what it lists TIED to the program's text (the seventh form; the later family's looks); each row that meets fmt, with fmt's text TOLD by the authors' own Lean function (tested against real Go, not proved from fmt's source: count such statements apart). THE CARD IS WHAT COUNTS. Prove the row's statement (the work); the ties are given (YtnmpbphnfiiafaaGreatDoorTie.lean); close each card by the builder's one call (the guide's Derived/Test/ToyasCard.lean, 'card_holds'). Laid BY PROGRAM, IN A SANDBOX (cutbox-door.mjs). By AI agents, Wed Nov 11 2026. No macro, syntax, notation, axiom, sorry.
-/
import Derived.Test.YtnmpbphnfiiafaaGreatDoorRows
import GoSem.ClaimSeven
namespace Go.Proofs.YtnmpbphnfiiafaaGreatDoor
namespace Rows

/-- THE TIED CARD OF 'vernacularlaw04.XmlTokens'. -/
def xmlTokensCard : Claim7 := { stood := { row := xmlTokensRow, standIns := [], harness := (true, "d1362922d5ccd6fed74916bb827391bf08451fcb8f2761c2fa294fe71c0093d2"), looks := true }, kinds := [], alts := [], laidByText := true, laidKinds := [.data, .pinned], laidTests := true, laidLooks := .later }
def XmlTokensCardSaid : Prop := Claim7.holds Tryz.pinned (.plain (OpenSpec.ofChange xmlTokensSpec)) xmlTokensCard

/-- THE TIED CARD OF 'vernacularlaw04.XmlLimits'. -/
def xmlLimitsCard : Claim7 := { stood := { row := xmlLimitsRow, standIns := [], harness := (true, "d1362922d5ccd6fed74916bb827391bf08451fcb8f2761c2fa294fe71c0093d2"), looks := true }, kinds := [], alts := [], laidByText := true, laidKinds := [.data, .pinned], laidTests := true, laidLooks := .later }
def XmlLimitsCardSaid : Prop := Claim7.holds Tryz.pinned (.plain (OpenSpec.ofChange xmlLimitsSpec)) xmlLimitsCard

/-- THE TIED CARD OF 'vernacularlaw04.XmlEscapes'. -/
def xmlEscapesCard : Claim7 := { stood := { row := xmlEscapesRow, standIns := [], harness := (true, "d1362922d5ccd6fed74916bb827391bf08451fcb8f2761c2fa294fe71c0093d2"), looks := true }, kinds := [], alts := [], laidByText := true, laidKinds := [.data, .pinned], laidTests := true, laidLooks := .later }
def XmlEscapesCardSaid : Prop := Claim7.holds Tryz.pinned (.plain (OpenSpec.ofChange xmlEscapesSpec)) xmlEscapesCard

/-- THE TIED CARD OF 'vernacularlaw04.XmlReferences'. -/
def xmlReferencesCard : Claim7 := { stood := { row := xmlReferencesRow, standIns := [], harness := (true, "d1362922d5ccd6fed74916bb827391bf08451fcb8f2761c2fa294fe71c0093d2"), looks := true }, kinds := [], alts := [], laidByText := true, laidKinds := [.data, .pinned], laidTests := true, laidLooks := .later }
def XmlReferencesCardSaid : Prop := Claim7.holds Tryz.pinned (.plain (OpenSpec.ofChange xmlReferencesSpec)) xmlReferencesCard

/-- THE TIED CARD OF 'vernacularlaw04.XmlThere'. -/
def xmlThereCard : Claim7 := { stood := { row := xmlThereRow, standIns := [], harness := (true, "d1362922d5ccd6fed74916bb827391bf08451fcb8f2761c2fa294fe71c0093d2"), looks := true }, kinds := [], alts := [], laidByText := true, laidKinds := [.data, .pinned], laidTests := true, laidLooks := .later }
def XmlThereCardSaid : Prop := Claim7.holds Tryz.pinned (.plain (OpenSpec.ofChange xmlThereSpec)) xmlThereCard

/-- THE TIED CARD OF 'vernacularlaw04.XmlPrints'. -/
def xmlPrintsCard : Claim7 := { stood := { row := xmlPrintsRow, standIns := [], harness := (true, "d1362922d5ccd6fed74916bb827391bf08451fcb8f2761c2fa294fe71c0093d2"), looks := true }, kinds := [], alts := [], laidByText := true, laidKinds := [.data, .pinned], laidTests := true, laidLooks := .later }
def XmlPrintsCardSaid : Prop := Claim7.holds Tryz.pinned (.plain (OpenSpec.ofChange xmlPrintsSpec)) xmlPrintsCard

/-- THE TIED CARD OF 'vernacularlaw04.XmlBack'. -/
def xmlBackCard : Claim7 := { stood := { row := xmlBackRow, standIns := [], harness := (true, "d1362922d5ccd6fed74916bb827391bf08451fcb8f2761c2fa294fe71c0093d2"), looks := true }, kinds := [], alts := [], laidByText := true, laidKinds := [.data, .pinned], laidTests := true, laidLooks := .later }
def XmlBackCardSaid : Prop := Claim7.holds Tryz.pinned (.plain (OpenSpec.ofChange xmlBackSpec)) xmlBackCard

/-- THE TIED CARD OF 'vernacularlaw04.XmlNest'. -/
def xmlNestCard : Claim7 := { stood := { row := xmlNestRow, standIns := [], harness := (true, "d1362922d5ccd6fed74916bb827391bf08451fcb8f2761c2fa294fe71c0093d2"), looks := true }, kinds := [], alts := [], laidByText := true, laidKinds := [.data, .pinned], laidTests := true, laidLooks := .later }
def XmlNestCardSaid : Prop := Claim7.holds Tryz.pinned (.plain (OpenSpec.ofChange xmlNestSpec)) xmlNestCard

/-- THE TIED CARD OF 'vernacularlaw04.XmlDress'. -/
def xmlDressCard : Claim7 := { stood := { row := xmlDressRow, standIns := [], harness := (true, "d1362922d5ccd6fed74916bb827391bf08451fcb8f2761c2fa294fe71c0093d2"), looks := true }, kinds := [], alts := [], laidByText := true, laidKinds := [.data, .pinned], laidTests := true, laidLooks := .later }
def XmlDressCardSaid : Prop := Claim7.holds Tryz.pinned (.plain (OpenSpec.ofChange xmlDressSpec)) xmlDressCard

/-- THE SECOND FORM's CARD OF 'vernacularlaw04.XmlTokens'. -/
def xmlTokensUptoCard : Claim7 := { stood := { row := xmlTokensUptoRow, standIns := [], harness := (true, "d1362922d5ccd6fed74916bb827391bf08451fcb8f2761c2fa294fe71c0093d2"), looks := true }, kinds := [], alts := [], laidByText := true, laidKinds := [.data, .pinned], laidTests := true, laidLooks := .later }
def XmlTokensUptoCardSaid : Prop := Claim7.holds Tryz.pinned (.plain (OpenSpec.upto xmlTokensSpec)) xmlTokensUptoCard

/-- THE SECOND FORM's CARD OF 'vernacularlaw04.XmlLimits'. -/
def xmlLimitsUptoCard : Claim7 := { stood := { row := xmlLimitsUptoRow, standIns := [], harness := (true, "d1362922d5ccd6fed74916bb827391bf08451fcb8f2761c2fa294fe71c0093d2"), looks := true }, kinds := [], alts := [], laidByText := true, laidKinds := [.data, .pinned], laidTests := true, laidLooks := .later }
def XmlLimitsUptoCardSaid : Prop := Claim7.holds Tryz.pinned (.plain (OpenSpec.upto xmlLimitsSpec)) xmlLimitsUptoCard

/-- THE SECOND FORM's CARD OF 'vernacularlaw04.XmlEscapes'. -/
def xmlEscapesUptoCard : Claim7 := { stood := { row := xmlEscapesUptoRow, standIns := [], harness := (true, "d1362922d5ccd6fed74916bb827391bf08451fcb8f2761c2fa294fe71c0093d2"), looks := true }, kinds := [], alts := [], laidByText := true, laidKinds := [.data, .pinned], laidTests := true, laidLooks := .later }
def XmlEscapesUptoCardSaid : Prop := Claim7.holds Tryz.pinned (.plain (OpenSpec.upto xmlEscapesSpec)) xmlEscapesUptoCard

/-- THE SECOND FORM's CARD OF 'vernacularlaw04.XmlReferences'. -/
def xmlReferencesUptoCard : Claim7 := { stood := { row := xmlReferencesUptoRow, standIns := [], harness := (true, "d1362922d5ccd6fed74916bb827391bf08451fcb8f2761c2fa294fe71c0093d2"), looks := true }, kinds := [], alts := [], laidByText := true, laidKinds := [.data, .pinned], laidTests := true, laidLooks := .later }
def XmlReferencesUptoCardSaid : Prop := Claim7.holds Tryz.pinned (.plain (OpenSpec.upto xmlReferencesSpec)) xmlReferencesUptoCard

/-- THE SECOND FORM's CARD OF 'vernacularlaw04.XmlThere'. -/
def xmlThereUptoCard : Claim7 := { stood := { row := xmlThereUptoRow, standIns := [], harness := (true, "d1362922d5ccd6fed74916bb827391bf08451fcb8f2761c2fa294fe71c0093d2"), looks := true }, kinds := [], alts := [], laidByText := true, laidKinds := [.data, .pinned], laidTests := true, laidLooks := .later }
def XmlThereUptoCardSaid : Prop := Claim7.holds Tryz.pinned (.plain (OpenSpec.upto xmlThereSpec)) xmlThereUptoCard

/-- THE SECOND FORM's CARD OF 'vernacularlaw04.XmlPrints'. -/
def xmlPrintsUptoCard : Claim7 := { stood := { row := xmlPrintsUptoRow, standIns := [], harness := (true, "d1362922d5ccd6fed74916bb827391bf08451fcb8f2761c2fa294fe71c0093d2"), looks := true }, kinds := [], alts := [], laidByText := true, laidKinds := [.data, .pinned], laidTests := true, laidLooks := .later }
def XmlPrintsUptoCardSaid : Prop := Claim7.holds Tryz.pinned (.plain (OpenSpec.upto xmlPrintsSpec)) xmlPrintsUptoCard

/-- THE SECOND FORM's CARD OF 'vernacularlaw04.XmlBack'. -/
def xmlBackUptoCard : Claim7 := { stood := { row := xmlBackUptoRow, standIns := [], harness := (true, "d1362922d5ccd6fed74916bb827391bf08451fcb8f2761c2fa294fe71c0093d2"), looks := true }, kinds := [], alts := [], laidByText := true, laidKinds := [.data, .pinned], laidTests := true, laidLooks := .later }
def XmlBackUptoCardSaid : Prop := Claim7.holds Tryz.pinned (.plain (OpenSpec.upto xmlBackSpec)) xmlBackUptoCard

/-- THE SECOND FORM's CARD OF 'vernacularlaw04.XmlNest'. -/
def xmlNestUptoCard : Claim7 := { stood := { row := xmlNestUptoRow, standIns := [], harness := (true, "d1362922d5ccd6fed74916bb827391bf08451fcb8f2761c2fa294fe71c0093d2"), looks := true }, kinds := [], alts := [], laidByText := true, laidKinds := [.data, .pinned], laidTests := true, laidLooks := .later }
def XmlNestUptoCardSaid : Prop := Claim7.holds Tryz.pinned (.plain (OpenSpec.upto xmlNestSpec)) xmlNestUptoCard

/-- THE SECOND FORM's CARD OF 'vernacularlaw04.XmlDress'. -/
def xmlDressUptoCard : Claim7 := { stood := { row := xmlDressUptoRow, standIns := [], harness := (true, "d1362922d5ccd6fed74916bb827391bf08451fcb8f2761c2fa294fe71c0093d2"), looks := true }, kinds := [], alts := [], laidByText := true, laidKinds := [.data, .pinned], laidTests := true, laidLooks := .later }
def XmlDressUptoCardSaid : Prop := Claim7.holds Tryz.pinned (.plain (OpenSpec.upto xmlDressSpec)) xmlDressUptoCard
end Rows
end Go.Proofs.YtnmpbphnfiiafaaGreatDoor
