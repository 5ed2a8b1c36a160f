/-
  The walk of dec.Of at 1.
-/
import Derived.Test.YtgccppilhbannaaDoorAddW
namespace Go.Proofs.YtgccppilhbannaaDoor
open Go.RowKit Go.PlainAid

set_option maxRecDepth 100000 in
set_option maxHeartbeats 1000000 in
theorem of_one (w : World) : Calls Tryd.prog 44 #[.int .i64 1] w fun e w' => e = .returned (.agg #[.bool false, .string ⟨#[49]⟩, .int .i64 0]) ∧ Below w.heap.size w w' := by
  have h1 : ∀ W : World, Calls Tryd.prog 74 #[.int .i64 1, .int .i64 10] W fun e w' => e = .returned (.string ⟨#[49]⟩) ∧ W = w' := fun W => by
    have h := Tryd.strconv_FormatInt_10_small 1 (by decide) W
    have e : (⟨(Lib.decDigits 1).toArray⟩ : ByteArray) = ⟨#[49]⟩ := by decide +kernel
    rw [e] at h
    exact h.mono fun _ _ ⟨a, b⟩ => ⟨a, b.symm⟩
  have h2 : ∀ W : World, Calls Tryd.prog 73 #[.string ⟨#[49]⟩, .string ⟨#[45]⟩] W fun e w' => e = .returned (.tuple #[.string ⟨#[49]⟩, .bool false]) ∧ W = w' := fun W => by
    have h := Tryd.strings_CutPrefix ⟨#[49]⟩ ⟨#[45]⟩ W
    have e : (⟨(Lib.trimPrefix (⟨#[49]⟩ : ByteArray).data.toList (⟨#[45]⟩ : ByteArray).data.toList).toArray⟩ : ByteArray) = ⟨#[49]⟩ := by decide +kernel
    have e2 : Lib.hasPrefix (⟨#[49]⟩ : ByteArray).data.toList (⟨#[45]⟩ : ByteArray).data.toList = false := by decide +kernel
    rw [e, e2] at h
    exact h.mono fun _ _ ⟨a, b⟩ => ⟨a, b.symm⟩
  go_enter Tryd.func44, Tryd.ntmps44
  go_wp2_with fail
  refine (h1 _).mono ?_
  rintro e w' ⟨rfl, rfl⟩
  go_wp2_with fail
  refine (h2 _).mono ?_
  rintro e w' ⟨rfl, rfl⟩
  go_wp2_with fail
  refine bodyPost_ret ?_ rfl ⟨rfl, ?_⟩
  · simp [results, Tryd.results44, go_sem]
  · repeat (refine Below.setCell ?_ (Nat.le_refl _) _)
    exact (Below.refl _ _).alloc (Nat.le_refl _) _
end Go.Proofs.YtgccppilhbannaaDoor
