/-
  DERIVED. GIVEN WITH THE SEED: THE CARDS: each row of YtbnhfjhhbgmhfaaDoorRows.lean that lists a variable, with what it lists TIED to the program's text (the seventh form; the later family's looks); each row that meets fmt, with fmt's text TOLD by the authors' own Lean function (tested against real Go, not proved from fmt's source: count such statements apart). THE CARD IS WHAT COUNTS. Prove the row's statement (the work); the ties are given (YtbnhfjhhbgmhfaaDoorTie.lean); close each card by the builder's one call (the guide's Derived/Test/ToyasCard.lean, 'card_holds'). Laid BY PROGRAM, IN A SANDBOX (cutbox-door.mjs). By AI agents, Wed Nov 11 2026. No macro, syntax, notation, axiom, sorry.
-/
import Derived.Test.YtbnhfjhhbgmhfaaDoorRows
import GoSem.ClaimSeven
namespace Go.Proofs.YtbnhfjhhbgmhfaaDoor
namespace Rows

/-- THE TIED CARD OF 'vernacularlaw17.DatepatParses'. -/
def datepatParsesCard : Claim7 := { stood := { row := datepatParsesRow, standIns := [], harness := (true, "5945300c4353c30943fde3ff7cd07b92b2d9a97cf1e3dcad3293d69c45ff3dc4"), looks := false }, kinds := [], alts := [], laidByText := true, laidKinds := [.data, .pinned], laidTests := true, laidLooks := .later }
def DatepatParsesCardSaid : Prop := Claim7.holds Tryd.pinned (.plain (OpenSpec.ofChange datepatParsesSpec)) datepatParsesCard

/-- THE TIED CARD OF 'vernacularlaw17.DatepatPrints'. -/
def datepatPrintsCard : Claim7 := { stood := { row := datepatPrintsRow, standIns := [], harness := (true, "5945300c4353c30943fde3ff7cd07b92b2d9a97cf1e3dcad3293d69c45ff3dc4"), looks := false }, kinds := [], alts := [], laidByText := true, laidKinds := [.data, .pinned], laidTests := true, laidLooks := .later }
def DatepatPrintsCardSaid : Prop := Claim7.holds Tryd.pinned (.plain (OpenSpec.ofChange datepatPrintsSpec)) datepatPrintsCard

/-- THE TIED CARD OF 'vernacularlaw17.DatepatBack'. -/
def datepatBackCard : Claim7 := { stood := { row := datepatBackRow, standIns := [], harness := (true, "5945300c4353c30943fde3ff7cd07b92b2d9a97cf1e3dcad3293d69c45ff3dc4"), looks := false }, kinds := [], alts := [], laidByText := true, laidKinds := [.data, .pinned], laidTests := true, laidLooks := .later }
def DatepatBackCardSaid : Prop := Claim7.holds Tryd.pinned (.plain (OpenSpec.ofChange datepatBackSpec)) datepatBackCard

/-- THE TIED CARD OF 'vernacularlaw17.DatepatStretches'. -/
def datepatStretchesCard : Claim7 := { stood := { row := datepatStretchesRow, standIns := [], harness := (true, "5945300c4353c30943fde3ff7cd07b92b2d9a97cf1e3dcad3293d69c45ff3dc4"), looks := false }, kinds := [], alts := [], laidByText := true, laidKinds := [.data, .pinned], laidTests := true, laidLooks := .later }
def DatepatStretchesCardSaid : Prop := Claim7.holds Tryd.pinned (.plain (OpenSpec.ofChange datepatStretchesSpec)) datepatStretchesCard

/-- THE TIED CARD OF 'vernacularlaw17.DatepatOwn'. -/
def datepatOwnCard : Claim7 := { stood := { row := datepatOwnRow, standIns := [], harness := (true, "5945300c4353c30943fde3ff7cd07b92b2d9a97cf1e3dcad3293d69c45ff3dc4"), looks := false }, kinds := [], alts := [], laidByText := true, laidKinds := [.data, .pinned], laidTests := true, laidLooks := .later }
def DatepatOwnCardSaid : Prop := Claim7.holds Tryd.pinned (.plain (OpenSpec.ofChange datepatOwnSpec)) datepatOwnCard

/-- THE TIED CARD OF 'vernacularlaw17.DatepatSkeletons'. -/
def datepatSkeletonsCard : Claim7 := { stood := { row := datepatSkeletonsRow, standIns := [], harness := (true, "5945300c4353c30943fde3ff7cd07b92b2d9a97cf1e3dcad3293d69c45ff3dc4"), looks := false }, kinds := [], alts := [], laidByText := true, laidKinds := [.data, .pinned], laidTests := true, laidLooks := .later }
def DatepatSkeletonsCardSaid : Prop := Claim7.holds Tryd.pinned (.plain (OpenSpec.ofChange datepatSkeletonsSpec)) datepatSkeletonsCard

/-- THE TIED CARD OF 'vernacularlaw17.DatepatApart'. -/
def datepatApartCard : Claim7 := { stood := { row := datepatApartRow, standIns := [], harness := (true, "5945300c4353c30943fde3ff7cd07b92b2d9a97cf1e3dcad3293d69c45ff3dc4"), looks := false }, kinds := [], alts := [], laidByText := true, laidKinds := [.data, .pinned], laidTests := true, laidLooks := .later }
def DatepatApartCardSaid : Prop := Claim7.holds Tryd.pinned (.plain (OpenSpec.ofChange datepatApartSpec)) datepatApartCard

/-- THE TIED CARD OF 'vernacularlaw17.DatepatBests'. -/
def datepatBestsCard : Claim7 := { stood := { row := datepatBestsRow, standIns := [], harness := (true, "5945300c4353c30943fde3ff7cd07b92b2d9a97cf1e3dcad3293d69c45ff3dc4"), looks := false }, kinds := [], alts := [], laidByText := true, laidKinds := [.data, .pinned], laidTests := true, laidLooks := .later }
def DatepatBestsCardSaid : Prop := Claim7.holds Tryd.pinned (.plain (OpenSpec.ofChange datepatBestsSpec)) datepatBestsCard

/-- THE SECOND FORM's CARD OF 'vernacularlaw17.DatepatParses'. -/
def datepatParsesUptoCard : Claim7 := { stood := { row := datepatParsesUptoRow, standIns := [], harness := (true, "5945300c4353c30943fde3ff7cd07b92b2d9a97cf1e3dcad3293d69c45ff3dc4"), looks := false }, kinds := [], alts := [], laidByText := true, laidKinds := [.data, .pinned], laidTests := true, laidLooks := .later }
def DatepatParsesUptoCardSaid : Prop := Claim7.holds Tryd.pinned (.plain (OpenSpec.upto datepatParsesSpec)) datepatParsesUptoCard

/-- THE SECOND FORM's CARD OF 'vernacularlaw17.DatepatPrints'. -/
def datepatPrintsUptoCard : Claim7 := { stood := { row := datepatPrintsUptoRow, standIns := [], harness := (true, "5945300c4353c30943fde3ff7cd07b92b2d9a97cf1e3dcad3293d69c45ff3dc4"), looks := false }, kinds := [], alts := [], laidByText := true, laidKinds := [.data, .pinned], laidTests := true, laidLooks := .later }
def DatepatPrintsUptoCardSaid : Prop := Claim7.holds Tryd.pinned (.plain (OpenSpec.upto datepatPrintsSpec)) datepatPrintsUptoCard

/-- THE SECOND FORM's CARD OF 'vernacularlaw17.DatepatBack'. -/
def datepatBackUptoCard : Claim7 := { stood := { row := datepatBackUptoRow, standIns := [], harness := (true, "5945300c4353c30943fde3ff7cd07b92b2d9a97cf1e3dcad3293d69c45ff3dc4"), looks := false }, kinds := [], alts := [], laidByText := true, laidKinds := [.data, .pinned], laidTests := true, laidLooks := .later }
def DatepatBackUptoCardSaid : Prop := Claim7.holds Tryd.pinned (.plain (OpenSpec.upto datepatBackSpec)) datepatBackUptoCard

/-- THE SECOND FORM's CARD OF 'vernacularlaw17.DatepatStretches'. -/
def datepatStretchesUptoCard : Claim7 := { stood := { row := datepatStretchesUptoRow, standIns := [], harness := (true, "5945300c4353c30943fde3ff7cd07b92b2d9a97cf1e3dcad3293d69c45ff3dc4"), looks := false }, kinds := [], alts := [], laidByText := true, laidKinds := [.data, .pinned], laidTests := true, laidLooks := .later }
def DatepatStretchesUptoCardSaid : Prop := Claim7.holds Tryd.pinned (.plain (OpenSpec.upto datepatStretchesSpec)) datepatStretchesUptoCard

/-- THE SECOND FORM's CARD OF 'vernacularlaw17.DatepatOwn'. -/
def datepatOwnUptoCard : Claim7 := { stood := { row := datepatOwnUptoRow, standIns := [], harness := (true, "5945300c4353c30943fde3ff7cd07b92b2d9a97cf1e3dcad3293d69c45ff3dc4"), looks := false }, kinds := [], alts := [], laidByText := true, laidKinds := [.data, .pinned], laidTests := true, laidLooks := .later }
def DatepatOwnUptoCardSaid : Prop := Claim7.holds Tryd.pinned (.plain (OpenSpec.upto datepatOwnSpec)) datepatOwnUptoCard

/-- THE SECOND FORM's CARD OF 'vernacularlaw17.DatepatSkeletons'. -/
def datepatSkeletonsUptoCard : Claim7 := { stood := { row := datepatSkeletonsUptoRow, standIns := [], harness := (true, "5945300c4353c30943fde3ff7cd07b92b2d9a97cf1e3dcad3293d69c45ff3dc4"), looks := false }, kinds := [], alts := [], laidByText := true, laidKinds := [.data, .pinned], laidTests := true, laidLooks := .later }
def DatepatSkeletonsUptoCardSaid : Prop := Claim7.holds Tryd.pinned (.plain (OpenSpec.upto datepatSkeletonsSpec)) datepatSkeletonsUptoCard

/-- THE SECOND FORM's CARD OF 'vernacularlaw17.DatepatApart'. -/
def datepatApartUptoCard : Claim7 := { stood := { row := datepatApartUptoRow, standIns := [], harness := (true, "5945300c4353c30943fde3ff7cd07b92b2d9a97cf1e3dcad3293d69c45ff3dc4"), looks := false }, kinds := [], alts := [], laidByText := true, laidKinds := [.data, .pinned], laidTests := true, laidLooks := .later }
def DatepatApartUptoCardSaid : Prop := Claim7.holds Tryd.pinned (.plain (OpenSpec.upto datepatApartSpec)) datepatApartUptoCard

/-- THE SECOND FORM's CARD OF 'vernacularlaw17.DatepatBests'. -/
def datepatBestsUptoCard : Claim7 := { stood := { row := datepatBestsUptoRow, standIns := [], harness := (true, "5945300c4353c30943fde3ff7cd07b92b2d9a97cf1e3dcad3293d69c45ff3dc4"), looks := false }, kinds := [], alts := [], laidByText := true, laidKinds := [.data, .pinned], laidTests := true, laidLooks := .later }
def DatepatBestsUptoCardSaid : Prop := Claim7.holds Tryd.pinned (.plain (OpenSpec.upto datepatBestsSpec)) datepatBestsUptoCard
end Rows
end Go.Proofs.YtbnhfjhhbgmhfaaDoor
