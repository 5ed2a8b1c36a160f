/-
  NARROWER THAN 'FOR EVERY INPUT', by the rows' own cells (each row's printed sentence says how): DatepatParses: laid · DatepatPrints: laid · DatepatBack: laid · DatepatStretches: laid · DatepatOwn: laid · DatepatSkeletons: laid · DatepatApart: laid · DatepatBests: laid.
  DERIVED. THE GIVEN ROWS OF THIS SEAT. 8 by the template 'for every input the law returns true; each argument reads behind the call as it read before'; 0 by the template 'total and deterministic' (their statements: YtbnhfjhhbgmhfaaDoorTotals.lean).
  GIVEN WITH THE SEED: the statements are not yours to turn. If you find one false, say at which input.
  Laid BY PROGRAM, IN A SANDBOX (cutbox-rows.mjs): the forced cells as the released guide's own fill.sh prints them over the translation ac1a897492c11bc8… (all of the seat's roots in one cut). By AI agents, Wed Nov 11 2026. No macro, syntax, notation, axiom, sorry.
-/
import Derived.Test.YtbnhfjhhbgmhfaaDoorChecked
import GoSem.PinnedTables
import GoSem.Claim
import GoSem.ClaimJoined
import GoSem.ClaimMapViews
import Derived.JoinedTies
import Derived.KernelRfl
namespace Go.Proofs.YtbnhfjhhbgmhfaaDoor
/- THE CELL 'sum', in the pinned program and in every row, IS THE sha256 OF THE DUMP (.gsa) THAT YtbnhfjhhbgmhfaaDoorProg.lean LOADS. Nothing in Lean hashes anything: it is a label: what it is worth is what the hold of that sum in a sandbox is worth. -/
noncomputable def Tryd.pinned : Pinned := { name := "ytbnhfjhhbgmhfaadoor", sum := "ac1a897492c11bc89ff8b6a48f75b03a99b4c64ccf36e5723732b20b8ca2f90e", checked := Tryd.checked }
namespace Rows
def none {H : Type} : Left H := { results := [], args := [] }

/- WHAT THE LISTED PACKAGE-LEVEL VARIABLES READ AS WHEN THE CALL BEGINS. Each datum BY PROGRAM (the guide's laid-datum.mjs) off the statement by which the dump's own 'gosem.cut.vars' lays the variable. In a bare row this is a premise. The card (YtbnhfjhhbgmhfaaDoorCards.lean) ties it to the program's text. -/
def laid_unicode_utf8_acceptRanges {H : Type} : DataW H := .agg [.agg [.lit (.int .u8 128), .lit (.int .u8 191)], .agg [.lit (.int .u8 160), .lit (.int .u8 191)], .agg [.lit (.int .u8 128), .lit (.int .u8 159)], .agg [.lit (.int .u8 144), .lit (.int .u8 191)], .agg [.lit (.int .u8 128), .lit (.int .u8 143)], .agg [.lit (.int .u8 0), .lit (.int .u8 0)], .agg [.lit (.int .u8 0), .lit (.int .u8 0)], .agg [.lit (.int .u8 0), .lit (.int .u8 0)], .agg [.lit (.int .u8 0), .lit (.int .u8 0)], .agg [.lit (.int .u8 0), .lit (.int .u8 0)], .agg [.lit (.int .u8 0), .lit (.int .u8 0)], .agg [.lit (.int .u8 0), .lit (.int .u8 0)], .agg [.lit (.int .u8 0), .lit (.int .u8 0)], .agg [.lit (.int .u8 0), .lit (.int .u8 0)], .agg [.lit (.int .u8 0), .lit (.int .u8 0)], .agg [.lit (.int .u8 0), .lit (.int .u8 0)]]
/-- One of Go's own tables, pinned by name: the form's constant. -/
def laid_unicode_utf8_first : DataW Unit := Go.Pinned.utf8First

/-- 'vernacularlaw17.DatepatParses': WHATEVER THE INPUT: true; the input reads as it did. -/
def datepatParsesSpec : ChangeSpec := { name := "datepatParses", fn := fun _ => fun
  | [d] => { results := [.lit (.bool true)], args := [d] }
  | _ => none }
def datepatParsesRow : OpenClaim := { program := "ytbnhfjhhbgmhfaadoor", sum := "ac1a897492c11bc89ff8b6a48f75b03a99b4c64ccf36e5723732b20b8ca2f90e", func := "vernacular/vernacularlaw17.DatepatParses", spec := "datepatParses", inPlace := ["internal/abi.NoEscape", "internal/bytealg.CountString", "internal/bytealg.IndexByteString", "internal/bytealg.IndexString", "internal/bytealg.MakeNoZero"], unfollowed := true, recurses := true, named := ["internal/bytealg.MaxLen", "unicode/utf8.first", "unicode/utf8.acceptRanges"], apart := false, laid := [("unicode/utf8.acceptRanges", laid_unicode_utf8_acceptRanges), ("unicode/utf8.first", laid_unicode_utf8_first)] }
def DatepatParsesSaid : Prop := datepatParsesRow.holds Tryd.pinned (OpenSpec.ofChange datepatParsesSpec)

/-- ITS FALSE NEIGHBOUR: 'it returns false'. Refute it at one input. -/
def datepatParsesWrong : ChangeSpec := { name := "datepatParses", fn := fun _ => fun
  | [d] => { results := [.lit (.bool false)], args := [d] }
  | _ => none }
def DatepatParsesWrongFalsely : Prop := datepatParsesRow.holds Tryd.pinned (OpenSpec.ofChange datepatParsesWrong)

/-- 'vernacularlaw17.DatepatPrints': WHATEVER THE INPUT: true; the input reads as it did. -/
def datepatPrintsSpec : ChangeSpec := { name := "datepatPrints", fn := fun _ => fun
  | [d] => { results := [.lit (.bool true)], args := [d] }
  | _ => none }
def datepatPrintsRow : OpenClaim := { program := "ytbnhfjhhbgmhfaadoor", sum := "ac1a897492c11bc89ff8b6a48f75b03a99b4c64ccf36e5723732b20b8ca2f90e", func := "vernacular/vernacularlaw17.DatepatPrints", spec := "datepatPrints", inPlace := ["internal/abi.NoEscape", "internal/bytealg.CountString", "internal/bytealg.IndexByteString", "internal/bytealg.IndexString", "internal/bytealg.MakeNoZero"], unfollowed := true, recurses := true, named := ["internal/bytealg.MaxLen", "unicode/utf8.first", "unicode/utf8.acceptRanges"], apart := false, laid := [("unicode/utf8.acceptRanges", laid_unicode_utf8_acceptRanges), ("unicode/utf8.first", laid_unicode_utf8_first)] }
def DatepatPrintsSaid : Prop := datepatPrintsRow.holds Tryd.pinned (OpenSpec.ofChange datepatPrintsSpec)

/-- ITS FALSE NEIGHBOUR: 'it returns false'. Refute it at one input. -/
def datepatPrintsWrong : ChangeSpec := { name := "datepatPrints", fn := fun _ => fun
  | [d] => { results := [.lit (.bool false)], args := [d] }
  | _ => none }
def DatepatPrintsWrongFalsely : Prop := datepatPrintsRow.holds Tryd.pinned (OpenSpec.ofChange datepatPrintsWrong)

/-- 'vernacularlaw17.DatepatBack': WHATEVER THE INPUT: true; the input reads as it did. -/
def datepatBackSpec : ChangeSpec := { name := "datepatBack", fn := fun _ => fun
  | [d1, d2] => { results := [.lit (.bool true)], args := [d1, d2] }
  | _ => none }
def datepatBackRow : OpenClaim := { program := "ytbnhfjhhbgmhfaadoor", sum := "ac1a897492c11bc89ff8b6a48f75b03a99b4c64ccf36e5723732b20b8ca2f90e", func := "vernacular/vernacularlaw17.DatepatBack", spec := "datepatBack", inPlace := ["internal/abi.NoEscape", "internal/bytealg.CountString", "internal/bytealg.IndexByteString", "internal/bytealg.IndexString", "internal/bytealg.MakeNoZero"], unfollowed := true, recurses := true, named := ["internal/bytealg.MaxLen", "unicode/utf8.first", "unicode/utf8.acceptRanges"], apart := false, laid := [("unicode/utf8.acceptRanges", laid_unicode_utf8_acceptRanges), ("unicode/utf8.first", laid_unicode_utf8_first)] }
def DatepatBackSaid : Prop := datepatBackRow.holds Tryd.pinned (OpenSpec.ofChange datepatBackSpec)

/-- ITS FALSE NEIGHBOUR: 'it returns false'. Refute it at one input. -/
def datepatBackWrong : ChangeSpec := { name := "datepatBack", fn := fun _ => fun
  | [d1, d2] => { results := [.lit (.bool false)], args := [d1, d2] }
  | _ => none }
def DatepatBackWrongFalsely : Prop := datepatBackRow.holds Tryd.pinned (OpenSpec.ofChange datepatBackWrong)

/-- 'vernacularlaw17.DatepatStretches': WHATEVER THE INPUT: true; the input reads as it did. -/
def datepatStretchesSpec : ChangeSpec := { name := "datepatStretches", fn := fun _ => fun
  | [d1, d2] => { results := [.lit (.bool true)], args := [d1, d2] }
  | _ => none }
def datepatStretchesRow : OpenClaim := { program := "ytbnhfjhhbgmhfaadoor", sum := "ac1a897492c11bc89ff8b6a48f75b03a99b4c64ccf36e5723732b20b8ca2f90e", func := "vernacular/vernacularlaw17.DatepatStretches", spec := "datepatStretches", inPlace := ["internal/abi.NoEscape", "internal/bytealg.CountString", "internal/bytealg.IndexByteString", "internal/bytealg.IndexString", "internal/bytealg.MakeNoZero"], unfollowed := true, recurses := true, named := ["internal/bytealg.MaxLen", "unicode/utf8.first", "unicode/utf8.acceptRanges"], apart := false, laid := [("unicode/utf8.acceptRanges", laid_unicode_utf8_acceptRanges), ("unicode/utf8.first", laid_unicode_utf8_first)] }
def DatepatStretchesSaid : Prop := datepatStretchesRow.holds Tryd.pinned (OpenSpec.ofChange datepatStretchesSpec)

/-- ITS FALSE NEIGHBOUR: 'it returns false'. Refute it at one input. -/
def datepatStretchesWrong : ChangeSpec := { name := "datepatStretches", fn := fun _ => fun
  | [d1, d2] => { results := [.lit (.bool false)], args := [d1, d2] }
  | _ => none }
def DatepatStretchesWrongFalsely : Prop := datepatStretchesRow.holds Tryd.pinned (OpenSpec.ofChange datepatStretchesWrong)

/-- 'vernacularlaw17.DatepatOwn': WHATEVER THE INPUT: true; the input reads as it did. -/
def datepatOwnSpec : ChangeSpec := { name := "datepatOwn", fn := fun _ => fun
  | [d1, d2] => { results := [.lit (.bool true)], args := [d1, d2] }
  | _ => none }
def datepatOwnRow : OpenClaim := { program := "ytbnhfjhhbgmhfaadoor", sum := "ac1a897492c11bc89ff8b6a48f75b03a99b4c64ccf36e5723732b20b8ca2f90e", func := "vernacular/vernacularlaw17.DatepatOwn", spec := "datepatOwn", inPlace := ["internal/abi.NoEscape", "internal/bytealg.CountString", "internal/bytealg.IndexByteString", "internal/bytealg.IndexString", "internal/bytealg.MakeNoZero"], unfollowed := true, recurses := true, named := ["internal/bytealg.MaxLen", "unicode/utf8.first", "unicode/utf8.acceptRanges"], apart := false, laid := [("unicode/utf8.acceptRanges", laid_unicode_utf8_acceptRanges), ("unicode/utf8.first", laid_unicode_utf8_first)] }
def DatepatOwnSaid : Prop := datepatOwnRow.holds Tryd.pinned (OpenSpec.ofChange datepatOwnSpec)

/-- ITS FALSE NEIGHBOUR: 'it returns false'. Refute it at one input. -/
def datepatOwnWrong : ChangeSpec := { name := "datepatOwn", fn := fun _ => fun
  | [d1, d2] => { results := [.lit (.bool false)], args := [d1, d2] }
  | _ => none }
def DatepatOwnWrongFalsely : Prop := datepatOwnRow.holds Tryd.pinned (OpenSpec.ofChange datepatOwnWrong)

/-- 'vernacularlaw17.DatepatSkeletons': WHATEVER THE INPUT: true; the input reads as it did. -/
def datepatSkeletonsSpec : ChangeSpec := { name := "datepatSkeletons", fn := fun _ => fun
  | [d1, d2, d3] => { results := [.lit (.bool true)], args := [d1, d2, d3] }
  | _ => none }
def datepatSkeletonsRow : OpenClaim := { program := "ytbnhfjhhbgmhfaadoor", sum := "ac1a897492c11bc89ff8b6a48f75b03a99b4c64ccf36e5723732b20b8ca2f90e", func := "vernacular/vernacularlaw17.DatepatSkeletons", spec := "datepatSkeletons", inPlace := ["internal/abi.NoEscape", "internal/bytealg.CountString", "internal/bytealg.IndexByteString", "internal/bytealg.IndexString", "internal/bytealg.MakeNoZero"], unfollowed := true, recurses := true, named := ["internal/bytealg.MaxLen", "unicode/utf8.first", "unicode/utf8.acceptRanges"], apart := false, laid := [("unicode/utf8.acceptRanges", laid_unicode_utf8_acceptRanges), ("unicode/utf8.first", laid_unicode_utf8_first)] }
def DatepatSkeletonsSaid : Prop := datepatSkeletonsRow.holds Tryd.pinned (OpenSpec.ofChange datepatSkeletonsSpec)

/-- ITS FALSE NEIGHBOUR: 'it returns false'. Refute it at one input. -/
def datepatSkeletonsWrong : ChangeSpec := { name := "datepatSkeletons", fn := fun _ => fun
  | [d1, d2, d3] => { results := [.lit (.bool false)], args := [d1, d2, d3] }
  | _ => none }
def DatepatSkeletonsWrongFalsely : Prop := datepatSkeletonsRow.holds Tryd.pinned (OpenSpec.ofChange datepatSkeletonsWrong)

/-- 'vernacularlaw17.DatepatApart': WHATEVER THE INPUT: true; the input reads as it did. -/
def datepatApartSpec : ChangeSpec := { name := "datepatApart", fn := fun _ => fun
  | [d1, d2] => { results := [.lit (.bool true)], args := [d1, d2] }
  | _ => none }
def datepatApartRow : OpenClaim := { program := "ytbnhfjhhbgmhfaadoor", sum := "ac1a897492c11bc89ff8b6a48f75b03a99b4c64ccf36e5723732b20b8ca2f90e", func := "vernacular/vernacularlaw17.DatepatApart", spec := "datepatApart", inPlace := ["internal/abi.NoEscape", "internal/bytealg.CountString", "internal/bytealg.IndexByteString", "internal/bytealg.IndexString", "internal/bytealg.MakeNoZero"], unfollowed := true, recurses := true, named := ["internal/bytealg.MaxLen", "unicode/utf8.first", "unicode/utf8.acceptRanges"], apart := false, laid := [("unicode/utf8.acceptRanges", laid_unicode_utf8_acceptRanges), ("unicode/utf8.first", laid_unicode_utf8_first)] }
def DatepatApartSaid : Prop := datepatApartRow.holds Tryd.pinned (OpenSpec.ofChange datepatApartSpec)

/-- ITS FALSE NEIGHBOUR: 'it returns false'. Refute it at one input. -/
def datepatApartWrong : ChangeSpec := { name := "datepatApart", fn := fun _ => fun
  | [d1, d2] => { results := [.lit (.bool false)], args := [d1, d2] }
  | _ => none }
def DatepatApartWrongFalsely : Prop := datepatApartRow.holds Tryd.pinned (OpenSpec.ofChange datepatApartWrong)

/-- 'vernacularlaw17.DatepatBests': WHATEVER THE INPUT: true; the input reads as it did. -/
def datepatBestsSpec : ChangeSpec := { name := "datepatBests", fn := fun _ => fun
  | [d1, d2] => { results := [.lit (.bool true)], args := [d1, d2] }
  | _ => none }
def datepatBestsRow : OpenClaim := { program := "ytbnhfjhhbgmhfaadoor", sum := "ac1a897492c11bc89ff8b6a48f75b03a99b4c64ccf36e5723732b20b8ca2f90e", func := "vernacular/vernacularlaw17.DatepatBests", spec := "datepatBests", inPlace := ["internal/abi.NoEscape", "internal/bytealg.CountString", "internal/bytealg.IndexByteString", "internal/bytealg.IndexString", "internal/bytealg.MakeNoZero"], unfollowed := true, recurses := true, named := ["internal/bytealg.MaxLen", "unicode/utf8.first", "unicode/utf8.acceptRanges"], apart := false, laid := [("unicode/utf8.acceptRanges", laid_unicode_utf8_acceptRanges), ("unicode/utf8.first", laid_unicode_utf8_first)] }
def DatepatBestsSaid : Prop := datepatBestsRow.holds Tryd.pinned (OpenSpec.ofChange datepatBestsSpec)

/-- ITS FALSE NEIGHBOUR: 'it returns false'. Refute it at one input. -/
def datepatBestsWrong : ChangeSpec := { name := "datepatBests", fn := fun _ => fun
  | [d1, d2] => { results := [.lit (.bool false)], args := [d1, d2] }
  | _ => none }
def DatepatBestsWrongFalsely : Prop := datepatBestsRow.holds Tryd.pinned (OpenSpec.ofChange datepatBestsWrong)

/- THE SECOND FORM. 'bulk': how many values and letters a reading holds, each counted each time it is reached (what is shared counts as often as it is met; a slice's spare places count too). A statement '..UptoSaid' is the law's where the arguments, and the package variables that the reading takes, are together of bulk at most 1048576: NARROWER than '..Said'. Prove '..Said' where nothing that the law and all that it calls make is longer than what came in: it says more and counts as full. Else prove '..UptoSaid'. A law counts once. -/
mutual
def uptoBulk {H : Type} : DataW H → Nat
  | .lit (.string bytes) => bytes.length + 1
  | .lit _ => 1
  | .nil => 1
  | .ptr d => uptoBulk d + 1
  | .slice elems spare => uptoBulkAll elems + uptoBulkAll spare + 1
  | .agg parts => uptoBulkAll parts + 1
  | .iface _ d => uptoBulk d + 1
  | .map entries => uptoBulkEntries entries + 1
  | .held _ => 1
def uptoBulkAll {H : Type} : List (DataW H) → Nat
  | [] => 0
  | d :: r => uptoBulk d + uptoBulkAll r
def uptoBulkEntries {H : Type} : List (Lit × DataW H) → Nat
  | [] => 0
  | x :: r => uptoBulkEntry x + uptoBulkEntries r
def uptoBulkEntry {H : Type} : Lit × DataW H → Nat
  | (.string bytes, d) => bytes.length + uptoBulk d + 1
  | (_, d) => uptoBulk d + 1
 end
def uptoSmall : (H : Type) → List (DataW H) → Bool := fun _ ds => decide (uptoBulkAll ds ≤ 1048576)
def OpenSpec.upto (s : _root_.Go.ChangeSpec) : _root_.Go.OpenSpec := { _root_.Go.OpenSpec.ofChange s with cond := some uptoSmall }

/-- 'vernacularlaw17.DatepatParses', WHERE WHAT IT READS IS OF BULK AT MOST 1048576: true; the input reads as it did. -/
def datepatParsesUptoRow : OpenClaim := { program := "ytbnhfjhhbgmhfaadoor", sum := "ac1a897492c11bc89ff8b6a48f75b03a99b4c64ccf36e5723732b20b8ca2f90e", func := "vernacular/vernacularlaw17.DatepatParses", spec := "datepatParses", inPlace := ["internal/abi.NoEscape", "internal/bytealg.CountString", "internal/bytealg.IndexByteString", "internal/bytealg.IndexString", "internal/bytealg.MakeNoZero"], unfollowed := true, recurses := true, named := ["internal/bytealg.MaxLen", "unicode/utf8.first", "unicode/utf8.acceptRanges"], apart := false, laid := [("unicode/utf8.acceptRanges", laid_unicode_utf8_acceptRanges), ("unicode/utf8.first", laid_unicode_utf8_first)], narrowed := true }
def DatepatParsesUptoSaid : Prop := datepatParsesUptoRow.holds Tryd.pinned (OpenSpec.upto datepatParsesSpec)

/-- 'vernacularlaw17.DatepatPrints', WHERE WHAT IT READS IS OF BULK AT MOST 1048576: true; the input reads as it did. -/
def datepatPrintsUptoRow : OpenClaim := { program := "ytbnhfjhhbgmhfaadoor", sum := "ac1a897492c11bc89ff8b6a48f75b03a99b4c64ccf36e5723732b20b8ca2f90e", func := "vernacular/vernacularlaw17.DatepatPrints", spec := "datepatPrints", inPlace := ["internal/abi.NoEscape", "internal/bytealg.CountString", "internal/bytealg.IndexByteString", "internal/bytealg.IndexString", "internal/bytealg.MakeNoZero"], unfollowed := true, recurses := true, named := ["internal/bytealg.MaxLen", "unicode/utf8.first", "unicode/utf8.acceptRanges"], apart := false, laid := [("unicode/utf8.acceptRanges", laid_unicode_utf8_acceptRanges), ("unicode/utf8.first", laid_unicode_utf8_first)], narrowed := true }
def DatepatPrintsUptoSaid : Prop := datepatPrintsUptoRow.holds Tryd.pinned (OpenSpec.upto datepatPrintsSpec)

/-- 'vernacularlaw17.DatepatBack', WHERE WHAT IT READS IS OF BULK AT MOST 1048576: true; the input reads as it did. -/
def datepatBackUptoRow : OpenClaim := { program := "ytbnhfjhhbgmhfaadoor", sum := "ac1a897492c11bc89ff8b6a48f75b03a99b4c64ccf36e5723732b20b8ca2f90e", func := "vernacular/vernacularlaw17.DatepatBack", spec := "datepatBack", inPlace := ["internal/abi.NoEscape", "internal/bytealg.CountString", "internal/bytealg.IndexByteString", "internal/bytealg.IndexString", "internal/bytealg.MakeNoZero"], unfollowed := true, recurses := true, named := ["internal/bytealg.MaxLen", "unicode/utf8.first", "unicode/utf8.acceptRanges"], apart := false, laid := [("unicode/utf8.acceptRanges", laid_unicode_utf8_acceptRanges), ("unicode/utf8.first", laid_unicode_utf8_first)], narrowed := true }
def DatepatBackUptoSaid : Prop := datepatBackUptoRow.holds Tryd.pinned (OpenSpec.upto datepatBackSpec)

/-- 'vernacularlaw17.DatepatStretches', WHERE WHAT IT READS IS OF BULK AT MOST 1048576: true; the input reads as it did. -/
def datepatStretchesUptoRow : OpenClaim := { program := "ytbnhfjhhbgmhfaadoor", sum := "ac1a897492c11bc89ff8b6a48f75b03a99b4c64ccf36e5723732b20b8ca2f90e", func := "vernacular/vernacularlaw17.DatepatStretches", spec := "datepatStretches", inPlace := ["internal/abi.NoEscape", "internal/bytealg.CountString", "internal/bytealg.IndexByteString", "internal/bytealg.IndexString", "internal/bytealg.MakeNoZero"], unfollowed := true, recurses := true, named := ["internal/bytealg.MaxLen", "unicode/utf8.first", "unicode/utf8.acceptRanges"], apart := false, laid := [("unicode/utf8.acceptRanges", laid_unicode_utf8_acceptRanges), ("unicode/utf8.first", laid_unicode_utf8_first)], narrowed := true }
def DatepatStretchesUptoSaid : Prop := datepatStretchesUptoRow.holds Tryd.pinned (OpenSpec.upto datepatStretchesSpec)

/-- 'vernacularlaw17.DatepatOwn', WHERE WHAT IT READS IS OF BULK AT MOST 1048576: true; the input reads as it did. -/
def datepatOwnUptoRow : OpenClaim := { program := "ytbnhfjhhbgmhfaadoor", sum := "ac1a897492c11bc89ff8b6a48f75b03a99b4c64ccf36e5723732b20b8ca2f90e", func := "vernacular/vernacularlaw17.DatepatOwn", spec := "datepatOwn", inPlace := ["internal/abi.NoEscape", "internal/bytealg.CountString", "internal/bytealg.IndexByteString", "internal/bytealg.IndexString", "internal/bytealg.MakeNoZero"], unfollowed := true, recurses := true, named := ["internal/bytealg.MaxLen", "unicode/utf8.first", "unicode/utf8.acceptRanges"], apart := false, laid := [("unicode/utf8.acceptRanges", laid_unicode_utf8_acceptRanges), ("unicode/utf8.first", laid_unicode_utf8_first)], narrowed := true }
def DatepatOwnUptoSaid : Prop := datepatOwnUptoRow.holds Tryd.pinned (OpenSpec.upto datepatOwnSpec)

/-- 'vernacularlaw17.DatepatSkeletons', WHERE WHAT IT READS IS OF BULK AT MOST 1048576: true; the input reads as it did. -/
def datepatSkeletonsUptoRow : OpenClaim := { program := "ytbnhfjhhbgmhfaadoor", sum := "ac1a897492c11bc89ff8b6a48f75b03a99b4c64ccf36e5723732b20b8ca2f90e", func := "vernacular/vernacularlaw17.DatepatSkeletons", spec := "datepatSkeletons", inPlace := ["internal/abi.NoEscape", "internal/bytealg.CountString", "internal/bytealg.IndexByteString", "internal/bytealg.IndexString", "internal/bytealg.MakeNoZero"], unfollowed := true, recurses := true, named := ["internal/bytealg.MaxLen", "unicode/utf8.first", "unicode/utf8.acceptRanges"], apart := false, laid := [("unicode/utf8.acceptRanges", laid_unicode_utf8_acceptRanges), ("unicode/utf8.first", laid_unicode_utf8_first)], narrowed := true }
def DatepatSkeletonsUptoSaid : Prop := datepatSkeletonsUptoRow.holds Tryd.pinned (OpenSpec.upto datepatSkeletonsSpec)

/-- 'vernacularlaw17.DatepatApart', WHERE WHAT IT READS IS OF BULK AT MOST 1048576: true; the input reads as it did. -/
def datepatApartUptoRow : OpenClaim := { program := "ytbnhfjhhbgmhfaadoor", sum := "ac1a897492c11bc89ff8b6a48f75b03a99b4c64ccf36e5723732b20b8ca2f90e", func := "vernacular/vernacularlaw17.DatepatApart", spec := "datepatApart", inPlace := ["internal/abi.NoEscape", "internal/bytealg.CountString", "internal/bytealg.IndexByteString", "internal/bytealg.IndexString", "internal/bytealg.MakeNoZero"], unfollowed := true, recurses := true, named := ["internal/bytealg.MaxLen", "unicode/utf8.first", "unicode/utf8.acceptRanges"], apart := false, laid := [("unicode/utf8.acceptRanges", laid_unicode_utf8_acceptRanges), ("unicode/utf8.first", laid_unicode_utf8_first)], narrowed := true }
def DatepatApartUptoSaid : Prop := datepatApartUptoRow.holds Tryd.pinned (OpenSpec.upto datepatApartSpec)

/-- 'vernacularlaw17.DatepatBests', WHERE WHAT IT READS IS OF BULK AT MOST 1048576: true; the input reads as it did. -/
def datepatBestsUptoRow : OpenClaim := { program := "ytbnhfjhhbgmhfaadoor", sum := "ac1a897492c11bc89ff8b6a48f75b03a99b4c64ccf36e5723732b20b8ca2f90e", func := "vernacular/vernacularlaw17.DatepatBests", spec := "datepatBests", inPlace := ["internal/abi.NoEscape", "internal/bytealg.CountString", "internal/bytealg.IndexByteString", "internal/bytealg.IndexString", "internal/bytealg.MakeNoZero"], unfollowed := true, recurses := true, named := ["internal/bytealg.MaxLen", "unicode/utf8.first", "unicode/utf8.acceptRanges"], apart := false, laid := [("unicode/utf8.acceptRanges", laid_unicode_utf8_acceptRanges), ("unicode/utf8.first", laid_unicode_utf8_first)], narrowed := true }
def DatepatBestsUptoSaid : Prop := datepatBestsUptoRow.holds Tryd.pinned (OpenSpec.upto datepatBestsSpec)

end Rows
end Go.Proofs.YtbnhfjhhbgmhfaaDoor
