/-
  A decimal by value among a law's arguments: opened and shut.
-/
import Derived.Test.YtgbemhehbhlgpaaGreatDoorRows
import Derived.Test.YtgbemhehbhlgpaaGreatDoorCards
import Derived.ProofKit
import Derived.OpenShut
import Derived.Lib.SmallJoins
namespace Go.Proofs.YtgbemhehbhlgpaaGreatDoor
open Go.RowKit Go.Joins Go.ChangeShapes Go.WideShapes

set_option maxRecDepth 100000 in
theorem open_dec {H : Type} {enc : TypeId × Value → H} {W : World} {base b0 : Nat} {spare : Nat → Bool} {held : Bool} {v : Value} {d : DataW H} {p : List MemPlace} (hv : Value.okWide Tryz.prog W .any b0 23 v) (h : DataW.Trod enc Tryz.prog W base spare held 23 v d p) :
    ∃ (neg : Bool) (ds : ByteArray) (sc : Int), v = .agg #[.bool neg, .string ds, .int .i64 sc] ∧ d = .agg [.lit (.bool neg), .lit (.string ds.data.toList), .lit (.int .i64 sc)] ∧ p = [] ∧ ds.size ≤ maxLen ∧ (Lit.int .i64 sc).wf = true := by
  obtain ⟨v0, v1, v2, y0, y1, y2, n, rfl, rfl, rfl, h0, h1, h2⟩ := open_agg3 Tryz.underlying23 (by kernel_rfl) (by kernel_rfl) hv h
  obtain ⟨a, e0, rfl⟩ := DataW.trod_bool Tryz.underlying4 h0
  obtain ⟨b, e1, rfl, hb⟩ := DataW.trod_string Tryz.underlying9 h1
  obtain ⟨c, e2, rfl, hc⟩ := DataW.trod_int Tryz.underlying3 h2
  simp only [List.cons.injEq, and_true] at e0 e1 e2
  subst e0 e1 e2
  exact ⟨a, b, c, rfl, rfl, rfl, hb, hc⟩
set_option maxRecDepth 100000 in
theorem shut_dec {H : Type} {enc : TypeId × Value → H} {W : World} {base : Nat} {spare : Nat → Bool} {held : Bool} {neg : Bool} {ds : ByteArray} {sc : Int} (hb : ds.size ≤ maxLen) (hc : (Lit.int .i64 sc).wf = true) :
    DataW.Trod enc Tryz.prog W base spare held 23 (.agg #[.bool neg, .string ds, .int .i64 sc]) (.agg [.lit (.bool neg), .lit (.string ds.data.toList), .lit (.int .i64 sc)]) [] :=
  shut_agg3 (y0 := (.lit (.bool neg), [])) (y1 := (.lit (.string ds.data.toList), [])) (y2 := (.lit (.int .i64 sc), [])) Tryz.underlying23 (by kernel_rfl) (by kernel_rfl)
    ⟨1, by simp [DataW.trod, Tryz.underlying4]⟩ ⟨1, by simp [DataW.trod, Tryz.underlying9, hb]⟩ ⟨1, by simp [DataW.trod, Tryz.underlying3, hc]⟩
end Go.Proofs.YtgbemhehbhlgpaaGreatDoor
