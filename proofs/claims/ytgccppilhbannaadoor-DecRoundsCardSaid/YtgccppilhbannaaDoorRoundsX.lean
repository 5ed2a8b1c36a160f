/-
  The walk of DecRounds, at every argument.
-/
import Derived.Test.YtgccppilhbannaaDoorRoundsW
namespace Go.Proofs.YtgccppilhbannaaDoor
open Go.RowKit Go.PlainAid

theorem decRounds_walk (neg : Bool) (ds : ByteArray) (sc scale mode : Int) (w : World) (_ : -9223372036854775808 ≤ scale) (_ : scale ≤ 9223372036854775807) (_ : -9223372036854775808 ≤ mode) (_ : mode ≤ 9223372036854775807) :
    Calls Tryd.prog 5 #[.agg #[.bool neg, .string ds, .int .i64 sc], .int .i64 scale, .int .i64 mode] w fun e w' => e = .returned (.bool true) ∧ Below w.heap.size w w' := by
  by_cases h : rightB neg ds sc = false ∨ scale < 0 ∨ 400 < scale
  · exact rounds_no neg ds sc scale mode w h
  · have hr : rightB neg ds sc = true := by cases hq : rightB neg ds sc with
      | true => rfl
      | false => exact absurd (.inl hq) h
    obtain ⟨h1, h2, h3, h4, _, _⟩ := of_decide_eq_true hr
    obtain ⟨k, rfl⟩ : ∃ k : Nat, sc = k := ⟨sc.toNat, by omega⟩
    obtain ⟨m, rfl⟩ : ∃ m : Nat, scale = m := ⟨scale.toNat, by omega⟩
    exact rounds_yes neg ds k m mode w hr (by omega)
end Go.Proofs.YtgccppilhbannaaDoor
