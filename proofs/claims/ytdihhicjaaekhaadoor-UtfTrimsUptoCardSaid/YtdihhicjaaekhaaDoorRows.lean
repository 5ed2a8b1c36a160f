/-
  NARROWER THAN 'FOR EVERY INPUT', by the rows' own cells (each row's printed sentence says how): UtfWalks: laid · UtfWords: laid · UtfKinds: laid · UtfPieces: laid · UtfRange: laid · UtfFields: laid · UtfTrims: laid · UtfCases: laid.
  DERIVED. THE GIVEN ROWS OF THIS SEAT. 8 by the template 'for every input the law returns true; each argument reads behind the call as it read before'; 0 by the template 'total and deterministic' (their statements: YtdihhicjaaekhaaDoorTotals.lean).
  GIVEN WITH THE SEED: the statements are not yours to turn. If you find one false, say at which input.
  Laid BY PROGRAM, IN A SANDBOX (cutbox-rows.mjs): the forced cells as the released guide's own fill.sh prints them over the translation ee2283e6541f7628… (all of the seat's roots in one cut). By AI agents, Wed Nov 11 2026. No macro, syntax, notation, axiom, sorry.
-/
import Derived.Test.YtdihhicjaaekhaaDoorChecked
import GoSem.PinnedTables
import GoSem.Claim
import GoSem.ClaimJoined
import GoSem.ClaimMapViews
import Derived.JoinedTies
import Derived.KernelRfl
namespace Go.Proofs.YtdihhicjaaekhaaDoor
/- THE CELL 'sum', in the pinned program and in every row, IS THE sha256 OF THE DUMP (.gsa) THAT YtdihhicjaaekhaaDoorProg.lean LOADS. Nothing in Lean hashes anything: it is a label: what it is worth is what the hold of that sum in a sandbox is worth. -/
noncomputable def Tryd.pinned : Pinned := { name := "ytdihhicjaaekhaadoor", sum := "ee2283e6541f76281411b028d22a254c1114efa725950c468dfe93af30a2d686", checked := Tryd.checked }
namespace Rows
def none {H : Type} : Left H := { results := [], args := [] }

/- WHAT THE LISTED PACKAGE-LEVEL VARIABLES READ AS WHEN THE CALL BEGINS. Each datum BY PROGRAM (the guide's laid-datum.mjs) off the statement by which the dump's own 'gosem.cut.vars' lays the variable. In a bare row this is a premise. The card (YtdihhicjaaekhaaDoorCards.lean) ties it to the program's text. -/
def laid_unicode_utf8_acceptRanges {H : Type} : DataW H := .agg [.agg [.lit (.int .u8 128), .lit (.int .u8 191)], .agg [.lit (.int .u8 160), .lit (.int .u8 191)], .agg [.lit (.int .u8 128), .lit (.int .u8 159)], .agg [.lit (.int .u8 144), .lit (.int .u8 191)], .agg [.lit (.int .u8 128), .lit (.int .u8 143)], .agg [.lit (.int .u8 0), .lit (.int .u8 0)], .agg [.lit (.int .u8 0), .lit (.int .u8 0)], .agg [.lit (.int .u8 0), .lit (.int .u8 0)], .agg [.lit (.int .u8 0), .lit (.int .u8 0)], .agg [.lit (.int .u8 0), .lit (.int .u8 0)], .agg [.lit (.int .u8 0), .lit (.int .u8 0)], .agg [.lit (.int .u8 0), .lit (.int .u8 0)], .agg [.lit (.int .u8 0), .lit (.int .u8 0)], .agg [.lit (.int .u8 0), .lit (.int .u8 0)], .agg [.lit (.int .u8 0), .lit (.int .u8 0)], .agg [.lit (.int .u8 0), .lit (.int .u8 0)]]
/-- One of Go's own tables, pinned by name: the form's constant. -/
def laid_unicode_utf8_first : DataW Unit := Go.Pinned.utf8First

/-- 'vernacularlaw02.UtfWalks': WHATEVER THE INPUT: true; the input reads as it did. -/
def utfWalksSpec : ChangeSpec := { name := "utfWalks", fn := fun _ => fun
  | [d] => { results := [.lit (.bool true)], args := [d] }
  | _ => none }
def utfWalksRow : OpenClaim := { program := "ytdihhicjaaekhaadoor", sum := "ee2283e6541f76281411b028d22a254c1114efa725950c468dfe93af30a2d686", func := "vernacular/vernacularlaw02.UtfWalks", spec := "utfWalks", inPlace := ["internal/bytealg.IndexByteString", "internal/bytealg.IndexString"], unfollowed := true, recurses := true, named := ["unicode/utf8.first", "unicode/utf8.acceptRanges", "internal/bytealg.MaxLen"], apart := false, laid := [("unicode/utf8.acceptRanges", laid_unicode_utf8_acceptRanges), ("unicode/utf8.first", laid_unicode_utf8_first)] }
def UtfWalksSaid : Prop := utfWalksRow.holds Tryd.pinned (OpenSpec.ofChange utfWalksSpec)

/-- ITS FALSE NEIGHBOUR: 'it returns false'. Refute it at one input. -/
def utfWalksWrong : ChangeSpec := { name := "utfWalks", fn := fun _ => fun
  | [d] => { results := [.lit (.bool false)], args := [d] }
  | _ => none }
def UtfWalksWrongFalsely : Prop := utfWalksRow.holds Tryd.pinned (OpenSpec.ofChange utfWalksWrong)

/-- 'vernacularlaw02.UtfWords': WHATEVER THE INPUT: true; the input reads as it did. -/
def utfWordsSpec : ChangeSpec := { name := "utfWords", fn := fun _ => fun
  | [d] => { results := [.lit (.bool true)], args := [d] }
  | _ => none }
def utfWordsRow : OpenClaim := { program := "ytdihhicjaaekhaadoor", sum := "ee2283e6541f76281411b028d22a254c1114efa725950c468dfe93af30a2d686", func := "vernacular/vernacularlaw02.UtfWords", spec := "utfWords", inPlace := ["internal/bytealg.IndexByteString", "internal/bytealg.IndexString"], unfollowed := true, recurses := true, named := ["unicode/utf8.first", "unicode/utf8.acceptRanges", "internal/bytealg.MaxLen"], apart := false, laid := [("unicode/utf8.acceptRanges", laid_unicode_utf8_acceptRanges), ("unicode/utf8.first", laid_unicode_utf8_first)] }
def UtfWordsSaid : Prop := utfWordsRow.holds Tryd.pinned (OpenSpec.ofChange utfWordsSpec)

/-- ITS FALSE NEIGHBOUR: 'it returns false'. Refute it at one input. -/
def utfWordsWrong : ChangeSpec := { name := "utfWords", fn := fun _ => fun
  | [d] => { results := [.lit (.bool false)], args := [d] }
  | _ => none }
def UtfWordsWrongFalsely : Prop := utfWordsRow.holds Tryd.pinned (OpenSpec.ofChange utfWordsWrong)

/-- 'vernacularlaw02.UtfKinds': WHATEVER THE INPUT: true; the input reads as it did. -/
def utfKindsSpec : ChangeSpec := { name := "utfKinds", fn := fun _ => fun
  | [d1, d2] => { results := [.lit (.bool true)], args := [d1, d2] }
  | _ => none }
def utfKindsRow : OpenClaim := { program := "ytdihhicjaaekhaadoor", sum := "ee2283e6541f76281411b028d22a254c1114efa725950c468dfe93af30a2d686", func := "vernacular/vernacularlaw02.UtfKinds", spec := "utfKinds", inPlace := ["internal/bytealg.IndexByteString", "internal/bytealg.IndexString"], unfollowed := true, recurses := true, named := ["unicode/utf8.first", "unicode/utf8.acceptRanges", "internal/bytealg.MaxLen"], apart := false, laid := [("unicode/utf8.acceptRanges", laid_unicode_utf8_acceptRanges), ("unicode/utf8.first", laid_unicode_utf8_first)] }
def UtfKindsSaid : Prop := utfKindsRow.holds Tryd.pinned (OpenSpec.ofChange utfKindsSpec)

/-- ITS FALSE NEIGHBOUR: 'it returns false'. Refute it at one input. -/
def utfKindsWrong : ChangeSpec := { name := "utfKinds", fn := fun _ => fun
  | [d1, d2] => { results := [.lit (.bool false)], args := [d1, d2] }
  | _ => none }
def UtfKindsWrongFalsely : Prop := utfKindsRow.holds Tryd.pinned (OpenSpec.ofChange utfKindsWrong)

/-- 'vernacularlaw02.UtfPieces': WHATEVER THE INPUT: true; the input reads as it did. -/
def utfPiecesSpec : ChangeSpec := { name := "utfPieces", fn := fun _ => fun
  | [d1, d2] => { results := [.lit (.bool true)], args := [d1, d2] }
  | _ => none }
def utfPiecesRow : OpenClaim := { program := "ytdihhicjaaekhaadoor", sum := "ee2283e6541f76281411b028d22a254c1114efa725950c468dfe93af30a2d686", func := "vernacular/vernacularlaw02.UtfPieces", spec := "utfPieces", inPlace := ["internal/bytealg.IndexByteString", "internal/bytealg.IndexString"], unfollowed := true, recurses := true, named := ["unicode/utf8.first", "unicode/utf8.acceptRanges", "internal/bytealg.MaxLen"], apart := false, laid := [("unicode/utf8.acceptRanges", laid_unicode_utf8_acceptRanges), ("unicode/utf8.first", laid_unicode_utf8_first)] }
def UtfPiecesSaid : Prop := utfPiecesRow.holds Tryd.pinned (OpenSpec.ofChange utfPiecesSpec)

/-- ITS FALSE NEIGHBOUR: 'it returns false'. Refute it at one input. -/
def utfPiecesWrong : ChangeSpec := { name := "utfPieces", fn := fun _ => fun
  | [d1, d2] => { results := [.lit (.bool false)], args := [d1, d2] }
  | _ => none }
def UtfPiecesWrongFalsely : Prop := utfPiecesRow.holds Tryd.pinned (OpenSpec.ofChange utfPiecesWrong)

/-- 'vernacularlaw02.UtfRange': WHATEVER THE INPUT: true; the input reads as it did. -/
def utfRangeSpec : ChangeSpec := { name := "utfRange", fn := fun _ => fun
  | [d] => { results := [.lit (.bool true)], args := [d] }
  | _ => none }
def utfRangeRow : OpenClaim := { program := "ytdihhicjaaekhaadoor", sum := "ee2283e6541f76281411b028d22a254c1114efa725950c468dfe93af30a2d686", func := "vernacular/vernacularlaw02.UtfRange", spec := "utfRange", inPlace := ["internal/bytealg.IndexByteString", "internal/bytealg.IndexString"], unfollowed := true, recurses := true, named := ["unicode/utf8.first", "unicode/utf8.acceptRanges", "internal/bytealg.MaxLen"], apart := false, laid := [("unicode/utf8.acceptRanges", laid_unicode_utf8_acceptRanges), ("unicode/utf8.first", laid_unicode_utf8_first)] }
def UtfRangeSaid : Prop := utfRangeRow.holds Tryd.pinned (OpenSpec.ofChange utfRangeSpec)

/-- ITS FALSE NEIGHBOUR: 'it returns false'. Refute it at one input. -/
def utfRangeWrong : ChangeSpec := { name := "utfRange", fn := fun _ => fun
  | [d] => { results := [.lit (.bool false)], args := [d] }
  | _ => none }
def UtfRangeWrongFalsely : Prop := utfRangeRow.holds Tryd.pinned (OpenSpec.ofChange utfRangeWrong)

/-- 'vernacularlaw02.UtfFields': WHATEVER THE INPUT: true; the input reads as it did. -/
def utfFieldsSpec : ChangeSpec := { name := "utfFields", fn := fun _ => fun
  | [d] => { results := [.lit (.bool true)], args := [d] }
  | _ => none }
def utfFieldsRow : OpenClaim := { program := "ytdihhicjaaekhaadoor", sum := "ee2283e6541f76281411b028d22a254c1114efa725950c468dfe93af30a2d686", func := "vernacular/vernacularlaw02.UtfFields", spec := "utfFields", inPlace := ["internal/bytealg.IndexByteString", "internal/bytealg.IndexString"], unfollowed := true, recurses := true, named := ["unicode/utf8.first", "unicode/utf8.acceptRanges", "internal/bytealg.MaxLen"], apart := false, laid := [("unicode/utf8.acceptRanges", laid_unicode_utf8_acceptRanges), ("unicode/utf8.first", laid_unicode_utf8_first)] }
def UtfFieldsSaid : Prop := utfFieldsRow.holds Tryd.pinned (OpenSpec.ofChange utfFieldsSpec)

/-- ITS FALSE NEIGHBOUR: 'it returns false'. Refute it at one input. -/
def utfFieldsWrong : ChangeSpec := { name := "utfFields", fn := fun _ => fun
  | [d] => { results := [.lit (.bool false)], args := [d] }
  | _ => none }
def UtfFieldsWrongFalsely : Prop := utfFieldsRow.holds Tryd.pinned (OpenSpec.ofChange utfFieldsWrong)

/-- 'vernacularlaw02.UtfTrims': WHATEVER THE INPUT: true; the input reads as it did. -/
def utfTrimsSpec : ChangeSpec := { name := "utfTrims", fn := fun _ => fun
  | [d] => { results := [.lit (.bool true)], args := [d] }
  | _ => none }
def utfTrimsRow : OpenClaim := { program := "ytdihhicjaaekhaadoor", sum := "ee2283e6541f76281411b028d22a254c1114efa725950c468dfe93af30a2d686", func := "vernacular/vernacularlaw02.UtfTrims", spec := "utfTrims", inPlace := ["internal/bytealg.IndexByteString", "internal/bytealg.IndexString"], unfollowed := true, recurses := true, named := ["unicode/utf8.first", "unicode/utf8.acceptRanges", "internal/bytealg.MaxLen"], apart := false, laid := [("unicode/utf8.acceptRanges", laid_unicode_utf8_acceptRanges), ("unicode/utf8.first", laid_unicode_utf8_first)] }
def UtfTrimsSaid : Prop := utfTrimsRow.holds Tryd.pinned (OpenSpec.ofChange utfTrimsSpec)

/-- ITS FALSE NEIGHBOUR: 'it returns false'. Refute it at one input. -/
def utfTrimsWrong : ChangeSpec := { name := "utfTrims", fn := fun _ => fun
  | [d] => { results := [.lit (.bool false)], args := [d] }
  | _ => none }
def UtfTrimsWrongFalsely : Prop := utfTrimsRow.holds Tryd.pinned (OpenSpec.ofChange utfTrimsWrong)

/-- 'vernacularlaw02.UtfCases': WHATEVER THE INPUT: true; the input reads as it did. -/
def utfCasesSpec : ChangeSpec := { name := "utfCases", fn := fun _ => fun
  | [d] => { results := [.lit (.bool true)], args := [d] }
  | _ => none }
def utfCasesRow : OpenClaim := { program := "ytdihhicjaaekhaadoor", sum := "ee2283e6541f76281411b028d22a254c1114efa725950c468dfe93af30a2d686", func := "vernacular/vernacularlaw02.UtfCases", spec := "utfCases", inPlace := ["internal/bytealg.IndexByteString", "internal/bytealg.IndexString"], unfollowed := true, recurses := true, named := ["unicode/utf8.first", "unicode/utf8.acceptRanges", "internal/bytealg.MaxLen"], apart := false, laid := [("unicode/utf8.acceptRanges", laid_unicode_utf8_acceptRanges), ("unicode/utf8.first", laid_unicode_utf8_first)] }
def UtfCasesSaid : Prop := utfCasesRow.holds Tryd.pinned (OpenSpec.ofChange utfCasesSpec)

/-- ITS FALSE NEIGHBOUR: 'it returns false'. Refute it at one input. -/
def utfCasesWrong : ChangeSpec := { name := "utfCases", fn := fun _ => fun
  | [d] => { results := [.lit (.bool false)], args := [d] }
  | _ => none }
def UtfCasesWrongFalsely : Prop := utfCasesRow.holds Tryd.pinned (OpenSpec.ofChange utfCasesWrong)

/- THE SECOND FORM. 'bulk': how many values and letters a reading holds, each counted each time it is reached (what is shared counts as often as it is met; a slice's spare places count too). A statement '..UptoSaid' is the law's where the arguments, and the package variables that the reading takes, are together of bulk at most 1048576: NARROWER than '..Said'. Prove '..Said' where nothing that the law and all that it calls make is longer than what came in: it says more and counts as full. Else prove '..UptoSaid'. A law counts once. -/
mutual
def uptoBulk {H : Type} : DataW H → Nat
  | .lit (.string bytes) => bytes.length + 1
  | .lit _ => 1
  | .nil => 1
  | .ptr d => uptoBulk d + 1
  | .slice elems spare => uptoBulkAll elems + uptoBulkAll spare + 1
  | .agg parts => uptoBulkAll parts + 1
  | .iface _ d => uptoBulk d + 1
  | .map entries => uptoBulkEntries entries + 1
  | .held _ => 1
def uptoBulkAll {H : Type} : List (DataW H) → Nat
  | [] => 0
  | d :: r => uptoBulk d + uptoBulkAll r
def uptoBulkEntries {H : Type} : List (Lit × DataW H) → Nat
  | [] => 0
  | x :: r => uptoBulkEntry x + uptoBulkEntries r
def uptoBulkEntry {H : Type} : Lit × DataW H → Nat
  | (.string bytes, d) => bytes.length + uptoBulk d + 1
  | (_, d) => uptoBulk d + 1
 end
def uptoSmall : (H : Type) → List (DataW H) → Bool := fun _ ds => decide (uptoBulkAll ds ≤ 1048576)
def OpenSpec.upto (s : _root_.Go.ChangeSpec) : _root_.Go.OpenSpec := { _root_.Go.OpenSpec.ofChange s with cond := some uptoSmall }

/-- 'vernacularlaw02.UtfWalks', WHERE WHAT IT READS IS OF BULK AT MOST 1048576: true; the input reads as it did. -/
def utfWalksUptoRow : OpenClaim := { program := "ytdihhicjaaekhaadoor", sum := "ee2283e6541f76281411b028d22a254c1114efa725950c468dfe93af30a2d686", func := "vernacular/vernacularlaw02.UtfWalks", spec := "utfWalks", inPlace := ["internal/bytealg.IndexByteString", "internal/bytealg.IndexString"], unfollowed := true, recurses := true, named := ["unicode/utf8.first", "unicode/utf8.acceptRanges", "internal/bytealg.MaxLen"], apart := false, laid := [("unicode/utf8.acceptRanges", laid_unicode_utf8_acceptRanges), ("unicode/utf8.first", laid_unicode_utf8_first)], narrowed := true }
def UtfWalksUptoSaid : Prop := utfWalksUptoRow.holds Tryd.pinned (OpenSpec.upto utfWalksSpec)

/-- 'vernacularlaw02.UtfWords', WHERE WHAT IT READS IS OF BULK AT MOST 1048576: true; the input reads as it did. -/
def utfWordsUptoRow : OpenClaim := { program := "ytdihhicjaaekhaadoor", sum := "ee2283e6541f76281411b028d22a254c1114efa725950c468dfe93af30a2d686", func := "vernacular/vernacularlaw02.UtfWords", spec := "utfWords", inPlace := ["internal/bytealg.IndexByteString", "internal/bytealg.IndexString"], unfollowed := true, recurses := true, named := ["unicode/utf8.first", "unicode/utf8.acceptRanges", "internal/bytealg.MaxLen"], apart := false, laid := [("unicode/utf8.acceptRanges", laid_unicode_utf8_acceptRanges), ("unicode/utf8.first", laid_unicode_utf8_first)], narrowed := true }
def UtfWordsUptoSaid : Prop := utfWordsUptoRow.holds Tryd.pinned (OpenSpec.upto utfWordsSpec)

/-- 'vernacularlaw02.UtfKinds', WHERE WHAT IT READS IS OF BULK AT MOST 1048576: true; the input reads as it did. -/
def utfKindsUptoRow : OpenClaim := { program := "ytdihhicjaaekhaadoor", sum := "ee2283e6541f76281411b028d22a254c1114efa725950c468dfe93af30a2d686", func := "vernacular/vernacularlaw02.UtfKinds", spec := "utfKinds", inPlace := ["internal/bytealg.IndexByteString", "internal/bytealg.IndexString"], unfollowed := true, recurses := true, named := ["unicode/utf8.first", "unicode/utf8.acceptRanges", "internal/bytealg.MaxLen"], apart := false, laid := [("unicode/utf8.acceptRanges", laid_unicode_utf8_acceptRanges), ("unicode/utf8.first", laid_unicode_utf8_first)], narrowed := true }
def UtfKindsUptoSaid : Prop := utfKindsUptoRow.holds Tryd.pinned (OpenSpec.upto utfKindsSpec)

/-- 'vernacularlaw02.UtfPieces', WHERE WHAT IT READS IS OF BULK AT MOST 1048576: true; the input reads as it did. -/
def utfPiecesUptoRow : OpenClaim := { program := "ytdihhicjaaekhaadoor", sum := "ee2283e6541f76281411b028d22a254c1114efa725950c468dfe93af30a2d686", func := "vernacular/vernacularlaw02.UtfPieces", spec := "utfPieces", inPlace := ["internal/bytealg.IndexByteString", "internal/bytealg.IndexString"], unfollowed := true, recurses := true, named := ["unicode/utf8.first", "unicode/utf8.acceptRanges", "internal/bytealg.MaxLen"], apart := false, laid := [("unicode/utf8.acceptRanges", laid_unicode_utf8_acceptRanges), ("unicode/utf8.first", laid_unicode_utf8_first)], narrowed := true }
def UtfPiecesUptoSaid : Prop := utfPiecesUptoRow.holds Tryd.pinned (OpenSpec.upto utfPiecesSpec)

/-- 'vernacularlaw02.UtfRange', WHERE WHAT IT READS IS OF BULK AT MOST 1048576: true; the input reads as it did. -/
def utfRangeUptoRow : OpenClaim := { program := "ytdihhicjaaekhaadoor", sum := "ee2283e6541f76281411b028d22a254c1114efa725950c468dfe93af30a2d686", func := "vernacular/vernacularlaw02.UtfRange", spec := "utfRange", inPlace := ["internal/bytealg.IndexByteString", "internal/bytealg.IndexString"], unfollowed := true, recurses := true, named := ["unicode/utf8.first", "unicode/utf8.acceptRanges", "internal/bytealg.MaxLen"], apart := false, laid := [("unicode/utf8.acceptRanges", laid_unicode_utf8_acceptRanges), ("unicode/utf8.first", laid_unicode_utf8_first)], narrowed := true }
def UtfRangeUptoSaid : Prop := utfRangeUptoRow.holds Tryd.pinned (OpenSpec.upto utfRangeSpec)

/-- 'vernacularlaw02.UtfFields', WHERE WHAT IT READS IS OF BULK AT MOST 1048576: true; the input reads as it did. -/
def utfFieldsUptoRow : OpenClaim := { program := "ytdihhicjaaekhaadoor", sum := "ee2283e6541f76281411b028d22a254c1114efa725950c468dfe93af30a2d686", func := "vernacular/vernacularlaw02.UtfFields", spec := "utfFields", inPlace := ["internal/bytealg.IndexByteString", "internal/bytealg.IndexString"], unfollowed := true, recurses := true, named := ["unicode/utf8.first", "unicode/utf8.acceptRanges", "internal/bytealg.MaxLen"], apart := false, laid := [("unicode/utf8.acceptRanges", laid_unicode_utf8_acceptRanges), ("unicode/utf8.first", laid_unicode_utf8_first)], narrowed := true }
def UtfFieldsUptoSaid : Prop := utfFieldsUptoRow.holds Tryd.pinned (OpenSpec.upto utfFieldsSpec)

/-- 'vernacularlaw02.UtfTrims', WHERE WHAT IT READS IS OF BULK AT MOST 1048576: true; the input reads as it did. -/
def utfTrimsUptoRow : OpenClaim := { program := "ytdihhicjaaekhaadoor", sum := "ee2283e6541f76281411b028d22a254c1114efa725950c468dfe93af30a2d686", func := "vernacular/vernacularlaw02.UtfTrims", spec := "utfTrims", inPlace := ["internal/bytealg.IndexByteString", "internal/bytealg.IndexString"], unfollowed := true, recurses := true, named := ["unicode/utf8.first", "unicode/utf8.acceptRanges", "internal/bytealg.MaxLen"], apart := false, laid := [("unicode/utf8.acceptRanges", laid_unicode_utf8_acceptRanges), ("unicode/utf8.first", laid_unicode_utf8_first)], narrowed := true }
def UtfTrimsUptoSaid : Prop := utfTrimsUptoRow.holds Tryd.pinned (OpenSpec.upto utfTrimsSpec)

/-- 'vernacularlaw02.UtfCases', WHERE WHAT IT READS IS OF BULK AT MOST 1048576: true; the input reads as it did. -/
def utfCasesUptoRow : OpenClaim := { program := "ytdihhicjaaekhaadoor", sum := "ee2283e6541f76281411b028d22a254c1114efa725950c468dfe93af30a2d686", func := "vernacular/vernacularlaw02.UtfCases", spec := "utfCases", inPlace := ["internal/bytealg.IndexByteString", "internal/bytealg.IndexString"], unfollowed := true, recurses := true, named := ["unicode/utf8.first", "unicode/utf8.acceptRanges", "internal/bytealg.MaxLen"], apart := false, laid := [("unicode/utf8.acceptRanges", laid_unicode_utf8_acceptRanges), ("unicode/utf8.first", laid_unicode_utf8_first)], narrowed := true }
def UtfCasesUptoSaid : Prop := utfCasesUptoRow.holds Tryd.pinned (OpenSpec.upto utfCasesSpec)

end Rows
end Go.Proofs.YtdihhicjaaekhaaDoor
