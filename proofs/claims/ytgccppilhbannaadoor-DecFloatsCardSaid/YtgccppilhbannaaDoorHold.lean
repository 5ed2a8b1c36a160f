/-
  What is held in a region that draws its order: two blocks known whole, and that all below a mark is as it was; a call that makes memory keeps it. No program in sight.
-/
import Derived.Test.YtgccppilhbannaaDoorBlk
import Derived.Deep.RegionHeld3
namespace Go.Proofs.YtgccppilhbannaaDoor
open Go.RowKit

/-- Two blocks are known whole, and below a mark all is as in w0. -/
abbrev Hold2 (B : Nat) (w0 : World) (b0 : Nat) (c0 : Array Value) (b1 : Nat) (c1 : Array Value) (w' : World) : Prop :=
  (∀ o, w'.cell? ⟨b0, o, none⟩ = c0[o]?) ∧ (∀ o, w'.frozen? ⟨b0, o, none⟩ = false) ∧ (∀ o, w'.cell? ⟨b1, o, none⟩ = c1[o]?) ∧ (∀ o, w'.frozen? ⟨b1, o, none⟩ = false) ∧ Below B w0 w' ∧ b0 < w'.heap.size ∧ b1 < w'.heap.size ∧ B ≤ w'.heap.size ∧ Blk w' b0 c0 ∧ Blk w' b1 c1
theorem Hold2.mk {B : Nat} {w0 : World} {b0 : Nat} {c0 : Array Value} {b1 : Nat} {c1 : Array Value} {w' : World} (h0 : Blk w' b0 c0) (h1 : Blk w' b1 c1) (hB : Below B w0 w') (hz : B ≤ w0.heap.size) : Hold2 B w0 b0 c0 b1 c1 w' :=
  ⟨h0.cell, h0.free, h1.cell, h1.free, hB, h0.lt, h1.lt, Nat.le_trans hz hB.size, h0, h1⟩
theorem Hold2.drew {B : Nat} {w0 : World} {b0 : Nat} {c0 : Array Value} {b1 : Nat} {c1 : Array Value} {w' : World} (h : Hold2 B w0 b0 c0 b1 c1 w') : Hold2 B w0 b0 c0 b1 c1 w'.drew := by
  obtain ⟨a, b, c, d, e, f, g, i, j, k⟩ := h
  exact ⟨fun o => by simpa using a o, fun o => by simpa using b o, fun o => by simpa using c o, fun o => by simpa using d o, e.drew, by simpa using f, by simpa using g, by simpa using i, j.drew, k.drew⟩
theorem Hold2.on {B : Nat} {w0 : World} {b0 : Nat} {c0 : Array Value} {b1 : Nat} {c1 : Array Value} {w' w'' : World} (h : Hold2 B w0 b0 c0 b1 c1 w') (hB : Below w'.heap.size w' w'') : Hold2 B w0 b0 c0 b1 c1 w'' := by
  obtain ⟨a, b, c, d, e, f, g, i, j, k⟩ := h
  exact ⟨fun o => (hB.cell (p := ⟨b0, o, none⟩) f).trans (a o), fun o => (hB.frozen (p := ⟨b0, o, none⟩) f).trans (b o), fun o => (hB.cell (p := ⟨b1, o, none⟩) g).trans (c o), fun o => (hB.frozen (p := ⟨b1, o, none⟩) g).trans (d o),
    e.trans (hB.mono i), Nat.lt_of_lt_of_le f hB.size, Nat.lt_of_lt_of_le g hB.size, Nat.le_trans i hB.size, j.on hB, k.on hB⟩
theorem Hold2.alloc {B : Nat} {w0 : World} {b0 : Nat} {c0 : Array Value} {b1 : Nat} {c1 : Array Value} {w' : World} (h : Hold2 B w0 b0 c0 b1 c1 w') (o : Obj) : Hold2 B w0 b0 c0 b1 c1 (w'.alloc o) :=
  h.on ((Below.refl _ _).alloc (Nat.le_refl _) o)
/-- A call that only makes memory keeps what is held. -/
theorem hold_call {P : Program} {f : FuncId} {args : Array Value} {v : Value} {B : Nat} {w0 : World} {b0 : Nat} {c0 : Array Value} {b1 : Nat} {c1 : Array Value} {W : World} (h : Calls P f args W fun e w' => e = .returned v ∧ Below W.heap.size W w') (hS : Hold2 B w0 b0 c0 b1 c1 W) :
    Calls P f args W fun e w' => e = .returned v ∧ Hold2 B w0 b0 c0 b1 c1 w' := h.mono fun _ _ ⟨e, hB⟩ => ⟨e, hS.on hB⟩
/-- One block is known whole, and below a mark all is as in w0. -/
abbrev Hold1 (B : Nat) (w0 : World) (b0 : Nat) (c0 : Array Value) (w' : World) : Prop := (∀ o, w'.cell? ⟨b0, o, none⟩ = c0[o]?) ∧ Below B w0 w'
theorem Hold2.blk {B : Nat} {w0 : World} {b0 : Nat} {c0 : Array Value} {b1 : Nat} {c1 : Array Value} {w' : World} (h : Hold2 B w0 b0 c0 b1 c1 w') : Blk w' b0 c0 ∧ Blk w' b1 c1 := ⟨h.2.2.2.2.2.2.2.2.1, h.2.2.2.2.2.2.2.2.2⟩
theorem Hold2.one {B : Nat} {w0 : World} {b0 : Nat} {c0 : Array Value} {b1 : Nat} {c1 : Array Value} {w' : World} (h : Hold2 B w0 b0 c0 b1 c1 w') : Hold1 B w0 b0 c0 w' := ⟨h.1, h.2.2.2.2.1⟩
theorem Hold1.set {B : Nat} {w0 : World} {b0 : Nat} {c0 : Array Value} {w' : World} (h : Hold1 B w0 b0 c0 w') (c i : Nat) (v : Value) (hc : b0 ≠ c) (hB : B ≤ c) : Hold1 B w0 b0 c0 (w'.setCell ⟨c, i, none⟩ v) :=
  ⟨fun o => (World.cell?_setCell_other _ _ _ _ (fun e => hc (congrArg Addr.block e).symm)).trans (h.1 o), h.2.setCell hB _⟩
theorem Hold1.drew {B : Nat} {w0 : World} {b0 : Nat} {c0 : Array Value} {w' : World} (h : Hold1 B w0 b0 c0 w') : Hold1 B w0 b0 c0 w'.drew := ⟨fun o => by simpa using h.1 o, h.2.drew⟩
end Go.Proofs.YtgccppilhbannaaDoor
