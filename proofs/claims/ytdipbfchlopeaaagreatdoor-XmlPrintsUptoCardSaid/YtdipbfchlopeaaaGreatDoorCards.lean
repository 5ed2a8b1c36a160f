/-
  DERIVED. GIVEN WITH THE SEED: THE CARDS: each row of YtdipbfchlopeaaaGreatDoorRows.lean that lists a variable, with what it lists TIED to the program's text (the seventh form; the later family's looks); each row that meets fmt, with fmt's text TOLD by the authors' own Lean function (tested against real Go, not proved from fmt's source: count such statements apart). THE CARD IS WHAT COUNTS. Prove the row's statement (the work); the ties are given (YtdipbfchlopeaaaGreatDoorTie.lean); close each card by the builder's one call (the guide's Derived/Test/ToyasCard.lean, 'card_holds'). Laid BY PROGRAM, IN A SANDBOX (cutbox-door.mjs). By AI agents, Wed Nov 11 2026. No macro, syntax, notation, axiom, sorry.
-/
import Derived.Test.YtdipbfchlopeaaaGreatDoorRows
import GoSem.ClaimSeven
namespace Go.Proofs.YtdipbfchlopeaaaGreatDoor
namespace Rows

/-- THE TIED CARD OF 'vernacularlaw04.XmlPrints'. -/
def xmlPrintsCard : Claim7 := { stood := { row := xmlPrintsRow, standIns := [], harness := (true, "59a1a0bc49ddd7b90a1f4906a39bf30feb0832d515ebdd89ba2cc188325850d0"), looks := true }, kinds := [], alts := [], laidByText := true, laidKinds := [.data, .pinned], laidTests := true, laidLooks := .later }
def XmlPrintsCardSaid : Prop := Claim7.holds Tryz.pinned (.plain (OpenSpec.ofChange xmlPrintsSpec)) xmlPrintsCard

/-- THE TIED CARD OF 'vernacularlaw04.XmlBack'. -/
def xmlBackCard : Claim7 := { stood := { row := xmlBackRow, standIns := [], harness := (true, "59a1a0bc49ddd7b90a1f4906a39bf30feb0832d515ebdd89ba2cc188325850d0"), looks := true }, kinds := [], alts := [], laidByText := true, laidKinds := [.data, .pinned], laidTests := true, laidLooks := .later }
def XmlBackCardSaid : Prop := Claim7.holds Tryz.pinned (.plain (OpenSpec.ofChange xmlBackSpec)) xmlBackCard

/-- THE TIED CARD OF 'vernacularlaw04.XmlNest'. -/
def xmlNestCard : Claim7 := { stood := { row := xmlNestRow, standIns := [], harness := (true, "59a1a0bc49ddd7b90a1f4906a39bf30feb0832d515ebdd89ba2cc188325850d0"), looks := true }, kinds := [], alts := [], laidByText := true, laidKinds := [.data, .pinned], laidTests := true, laidLooks := .later }
def XmlNestCardSaid : Prop := Claim7.holds Tryz.pinned (.plain (OpenSpec.ofChange xmlNestSpec)) xmlNestCard

/-- THE TIED CARD OF 'vernacularlaw04.XmlDress'. -/
def xmlDressCard : Claim7 := { stood := { row := xmlDressRow, standIns := [], harness := (true, "59a1a0bc49ddd7b90a1f4906a39bf30feb0832d515ebdd89ba2cc188325850d0"), looks := true }, kinds := [], alts := [], laidByText := true, laidKinds := [.data, .pinned], laidTests := true, laidLooks := .later }
def XmlDressCardSaid : Prop := Claim7.holds Tryz.pinned (.plain (OpenSpec.ofChange xmlDressSpec)) xmlDressCard

/-- THE TIED CARD OF 'vernacularlaw05.NodeParses'. -/
def nodeParsesCard : Claim7 := { stood := { row := nodeParsesRow, standIns := [], harness := (true, "59a1a0bc49ddd7b90a1f4906a39bf30feb0832d515ebdd89ba2cc188325850d0"), looks := true }, kinds := [], alts := [], laidByText := true, laidKinds := [.data, .pinned], laidTests := true, laidLooks := .later }
def NodeParsesCardSaid : Prop := Claim7.holds Tryz.pinned (.plain (OpenSpec.ofChange nodeParsesSpec)) nodeParsesCard

/-- THE TIED CARD OF 'vernacularlaw05.NodeBack'. -/
def nodeBackCard : Claim7 := { stood := { row := nodeBackRow, standIns := [], harness := (true, "59a1a0bc49ddd7b90a1f4906a39bf30feb0832d515ebdd89ba2cc188325850d0"), looks := true }, kinds := [], alts := [], laidByText := true, laidKinds := [.data, .pinned], laidTests := true, laidLooks := .later }
def NodeBackCardSaid : Prop := Claim7.holds Tryz.pinned (.plain (OpenSpec.ofChange nodeBackSpec)) nodeBackCard

/-- THE TIED CARD OF 'vernacularlaw05.NodeOrder'. -/
def nodeOrderCard : Claim7 := { stood := { row := nodeOrderRow, standIns := [], harness := (true, "59a1a0bc49ddd7b90a1f4906a39bf30feb0832d515ebdd89ba2cc188325850d0"), looks := true }, kinds := [], alts := [], laidByText := true, laidKinds := [.data, .pinned], laidTests := true, laidLooks := .later }
def NodeOrderCardSaid : Prop := Claim7.holds Tryz.pinned (.plain (OpenSpec.ofChange nodeOrderSpec)) nodeOrderCard

/-- THE TIED CARD OF 'vernacularlaw05.NodeWalks'. -/
def nodeWalksCard : Claim7 := { stood := { row := nodeWalksRow, standIns := [], harness := (true, "59a1a0bc49ddd7b90a1f4906a39bf30feb0832d515ebdd89ba2cc188325850d0"), looks := true }, kinds := [], alts := [], laidByText := true, laidKinds := [.data, .pinned], laidTests := true, laidLooks := .later }
def NodeWalksCardSaid : Prop := Claim7.holds Tryz.pinned (.plain (OpenSpec.ofChange nodeWalksSpec)) nodeWalksCard

/-- THE TIED CARD OF 'vernacularlaw05.NodeDress'. -/
def nodeDressCard : Claim7 := { stood := { row := nodeDressRow, standIns := [], harness := (true, "59a1a0bc49ddd7b90a1f4906a39bf30feb0832d515ebdd89ba2cc188325850d0"), looks := true }, kinds := [], alts := [], laidByText := true, laidKinds := [.data, .pinned], laidTests := true, laidLooks := .later }
def NodeDressCardSaid : Prop := Claim7.holds Tryz.pinned (.plain (OpenSpec.ofChange nodeDressSpec)) nodeDressCard

/-- THE SECOND FORM's CARD OF 'vernacularlaw04.XmlPrints'. -/
def xmlPrintsUptoCard : Claim7 := { stood := { row := xmlPrintsUptoRow, standIns := [], harness := (true, "59a1a0bc49ddd7b90a1f4906a39bf30feb0832d515ebdd89ba2cc188325850d0"), looks := true }, kinds := [], alts := [], laidByText := true, laidKinds := [.data, .pinned], laidTests := true, laidLooks := .later }
def XmlPrintsUptoCardSaid : Prop := Claim7.holds Tryz.pinned (.plain (OpenSpec.upto xmlPrintsSpec)) xmlPrintsUptoCard

/-- THE SECOND FORM's CARD OF 'vernacularlaw04.XmlBack'. -/
def xmlBackUptoCard : Claim7 := { stood := { row := xmlBackUptoRow, standIns := [], harness := (true, "59a1a0bc49ddd7b90a1f4906a39bf30feb0832d515ebdd89ba2cc188325850d0"), looks := true }, kinds := [], alts := [], laidByText := true, laidKinds := [.data, .pinned], laidTests := true, laidLooks := .later }
def XmlBackUptoCardSaid : Prop := Claim7.holds Tryz.pinned (.plain (OpenSpec.upto xmlBackSpec)) xmlBackUptoCard

/-- THE SECOND FORM's CARD OF 'vernacularlaw04.XmlNest'. -/
def xmlNestUptoCard : Claim7 := { stood := { row := xmlNestUptoRow, standIns := [], harness := (true, "59a1a0bc49ddd7b90a1f4906a39bf30feb0832d515ebdd89ba2cc188325850d0"), looks := true }, kinds := [], alts := [], laidByText := true, laidKinds := [.data, .pinned], laidTests := true, laidLooks := .later }
def XmlNestUptoCardSaid : Prop := Claim7.holds Tryz.pinned (.plain (OpenSpec.upto xmlNestSpec)) xmlNestUptoCard

/-- THE SECOND FORM's CARD OF 'vernacularlaw04.XmlDress'. -/
def xmlDressUptoCard : Claim7 := { stood := { row := xmlDressUptoRow, standIns := [], harness := (true, "59a1a0bc49ddd7b90a1f4906a39bf30feb0832d515ebdd89ba2cc188325850d0"), looks := true }, kinds := [], alts := [], laidByText := true, laidKinds := [.data, .pinned], laidTests := true, laidLooks := .later }
def XmlDressUptoCardSaid : Prop := Claim7.holds Tryz.pinned (.plain (OpenSpec.upto xmlDressSpec)) xmlDressUptoCard

/-- THE SECOND FORM's CARD OF 'vernacularlaw05.NodeParses'. -/
def nodeParsesUptoCard : Claim7 := { stood := { row := nodeParsesUptoRow, standIns := [], harness := (true, "59a1a0bc49ddd7b90a1f4906a39bf30feb0832d515ebdd89ba2cc188325850d0"), looks := true }, kinds := [], alts := [], laidByText := true, laidKinds := [.data, .pinned], laidTests := true, laidLooks := .later }
def NodeParsesUptoCardSaid : Prop := Claim7.holds Tryz.pinned (.plain (OpenSpec.upto nodeParsesSpec)) nodeParsesUptoCard

/-- THE SECOND FORM's CARD OF 'vernacularlaw05.NodeBack'. -/
def nodeBackUptoCard : Claim7 := { stood := { row := nodeBackUptoRow, standIns := [], harness := (true, "59a1a0bc49ddd7b90a1f4906a39bf30feb0832d515ebdd89ba2cc188325850d0"), looks := true }, kinds := [], alts := [], laidByText := true, laidKinds := [.data, .pinned], laidTests := true, laidLooks := .later }
def NodeBackUptoCardSaid : Prop := Claim7.holds Tryz.pinned (.plain (OpenSpec.upto nodeBackSpec)) nodeBackUptoCard

/-- THE SECOND FORM's CARD OF 'vernacularlaw05.NodeOrder'. -/
def nodeOrderUptoCard : Claim7 := { stood := { row := nodeOrderUptoRow, standIns := [], harness := (true, "59a1a0bc49ddd7b90a1f4906a39bf30feb0832d515ebdd89ba2cc188325850d0"), looks := true }, kinds := [], alts := [], laidByText := true, laidKinds := [.data, .pinned], laidTests := true, laidLooks := .later }
def NodeOrderUptoCardSaid : Prop := Claim7.holds Tryz.pinned (.plain (OpenSpec.upto nodeOrderSpec)) nodeOrderUptoCard

/-- THE SECOND FORM's CARD OF 'vernacularlaw05.NodeWalks'. -/
def nodeWalksUptoCard : Claim7 := { stood := { row := nodeWalksUptoRow, standIns := [], harness := (true, "59a1a0bc49ddd7b90a1f4906a39bf30feb0832d515ebdd89ba2cc188325850d0"), looks := true }, kinds := [], alts := [], laidByText := true, laidKinds := [.data, .pinned], laidTests := true, laidLooks := .later }
def NodeWalksUptoCardSaid : Prop := Claim7.holds Tryz.pinned (.plain (OpenSpec.upto nodeWalksSpec)) nodeWalksUptoCard

/-- THE SECOND FORM's CARD OF 'vernacularlaw05.NodeDress'. -/
def nodeDressUptoCard : Claim7 := { stood := { row := nodeDressUptoRow, standIns := [], harness := (true, "59a1a0bc49ddd7b90a1f4906a39bf30feb0832d515ebdd89ba2cc188325850d0"), looks := true }, kinds := [], alts := [], laidByText := true, laidKinds := [.data, .pinned], laidTests := true, laidLooks := .later }
def NodeDressUptoCardSaid : Prop := Claim7.holds Tryz.pinned (.plain (OpenSpec.upto nodeDressSpec)) nodeDressUptoCard
end Rows
end Go.Proofs.YtdipbfchlopeaaaGreatDoor
