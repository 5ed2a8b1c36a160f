/-
  The walk of dec.Print.
-/
import Derived.Test.YtgccppilhbannaaDoorDecS
import Derived.Test.YtgccppilhbannaaDoorDecA
import Derived.Test.YtgccppilhbannaaDoorShelf
import Derived.Deep.QuietTactic
import Derived.BigQuiet
import Derived.Outline
namespace Go.Proofs.YtgccppilhbannaaDoor
open Go.RowKit Go.PlainAid

theorem bcell {W w1 : World} (hb : Below W.heap.size W w1) : (∀ b o, b < W.heap.size → w1.cell? ⟨b, o, none⟩ = W.cell? ⟨b, o, none⟩) ∧ (∀ b o, b < W.heap.size → w1.frozen? ⟨b, o, none⟩ = W.frozen? ⟨b, o, none⟩) :=
  ⟨fun b o h => hb.cell (p := ⟨b, o, none⟩) h, fun b o h => hb.frozen (p := ⟨b, o, none⟩) h⟩
theorem repeat_any (k : Nat) (w : World) (hk : k ≤ 1000000000000) : Calls Tryd.prog 51 #[.string ⟨#[48]⟩, .int .i64 k] w fun e w' => e = .returned (.string (zeros k)) ∧ Below w.heap.size w w' := by
  have h := Tryd.strings_Repeat ⟨#[48]⟩ k w (by omega) (by show 1 * k ≤ _; omega)
  rw [← repeat_zeros]
  exact h
end Go.Proofs.YtgccppilhbannaaDoor
