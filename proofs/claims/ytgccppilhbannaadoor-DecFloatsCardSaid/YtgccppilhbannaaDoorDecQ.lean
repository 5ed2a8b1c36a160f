/-
  The walk of dec.Parse: how a decimal's text is read, at every text. The function jumps to four labels.
-/
import Derived.Test.YtgccppilhbannaaDoorRows
import Derived.Test.YtgccppilhbannaaDoorDecP
import Derived.Test.YtgccppilhbannaaDoorDecA
import Derived.Test.YtgccppilhbannaaDoorDecB
import Derived.Test.YtgccppilhbannaaDoorDecN
import Derived.Test.YtgccppilhbannaaDoorJumps
import Derived.Test.YtgccppilhbannaaDoorShelf
import Derived.WalkKit
import Derived.WalkSpells
import Derived.WalkLawsBesides
import Derived.Lib.Hide
import Derived.Handy
import Derived.BigQuiet
namespace Go.Proofs.YtgccppilhbannaaDoor
open Go.RowKit Go.PlainAid

theorem map_range (t : Array Value) (n : Nat) (h : t.size = n) : t = ((List.range n).map fun k => t.getD k undef).toArray := by
  apply Array.ext
  · simp [h]
  · intro i h1 h2
    simp [Array.getD, h1]
/-- The frame's slots by number. -/
theorem lit122 (t : Array Value) (h : t.size = 122) : ∃ f : Nat → Value, (∀ k, t.getD k undef = f k) ∧ t = #[f 0, f 1, f 2, f 3, f 4, f 5, f 6, f 7, f 8, f 9, f 10, f 11, f 12, f 13, f 14, f 15, f 16, f 17, f 18, f 19, f 20, f 21, f 22, f 23, f 24, f 25, f 26, f 27, f 28, f 29, f 30, f 31, f 32, f 33, f 34, f 35, f 36, f 37, f 38, f 39, f 40, f 41, f 42, f 43, f 44, f 45, f 46, f 47, f 48, f 49, f 50, f 51, f 52, f 53, f 54, f 55, f 56, f 57, f 58, f 59, f 60, f 61, f 62, f 63, f 64, f 65, f 66, f 67, f 68, f 69, f 70, f 71, f 72, f 73, f 74, f 75, f 76, f 77, f 78, f 79, f 80, f 81, f 82, f 83, f 84, f 85, f 86, f 87, f 88, f 89, f 90, f 91, f 92, f 93, f 94, f 95, f 96, f 97, f 98, f 99, f 100, f 101, f 102, f 103, f 104, f 105, f 106, f 107, f 108, f 109, f 110, f 111, f 112, f 113, f 114, f 115, f 116, f 117, f 118, f 119, f 120, f 121] :=
  ⟨fun k => t.getD k undef, fun _ => rfl, map_range t 122 h⟩

set_option maxRecDepth 100000 in
set_option maxHeartbeats 1000000 in
theorem wrong_any (k : Int) (w : World) :
    Calls Tryd.prog 45 #[.int .i64 k] w fun e w' => e = .returned (.tuple #[.agg #[.bool false, .string ⟨#[]⟩, .int .i64 0], .agg #[.int .i64 130, .int .i64 k]]) ∧ Below w.heap.size w w' := by
  go_enter Tryd.func45, Tryd.ntmps45
  go_wp2
  go_returns
  exact ⟨rfl, ((Below.refl _ w).alloc (Nat.le_refl _) _).alloc (by simp) _⟩

/-- What the frame holds at each label. -/
def ParseJ (s : ByteArray) (w : World) (at' : Nat) (point : Int) (a : Act) (w' : World) : Prop :=
  a.defers = [] ∧ a.tmps.size = 122 ∧ a.tmps.getD 0 undef = .string s ∧ a.tmps.getD 2 undef = .pointer (some ⟨w.heap.size, 0, none⟩) ∧ a.tmps.getD 3 undef = .pointer (some ⟨w.heap.size + 1, 0, none⟩) ∧
    a.tmps.getD 4 undef = .func (.func 45) #[] #[] ∧ a.tmps.getD 5 undef = .int .i64 at' ∧ a.tmps.getD 6 undef = .int .i64 point ∧ a.tmps.getD 7 undef = .int .i64 (pFrom s) ∧
    w' = (w.alloc (.cells #[.bool false, .string ⟨#[]⟩, .int .i64 0] 23)).alloc (.cells #[.int .i64 0, .int .i64 0] 27)

/-- The code inside a function's one scope. -/
noncomputable def inScope : Code → Code
  | .scope c => c
  | .seq _ c => inScope c
  | c => c
noncomputable def parseCode : Code := inScope (Tryd.f13.body.getD .skip)

/-- What follows a label. -/
noncomputable def afterL (l : Nat) : Code := match findLabel parseCode l with | some (.seq _ c) => c | _ => .skip
end Go.Proofs.YtgccppilhbannaaDoor
