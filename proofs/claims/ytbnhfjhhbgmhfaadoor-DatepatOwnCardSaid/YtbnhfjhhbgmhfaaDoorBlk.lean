/-
  Blocks of memory known whole: what a struct in memory reads as, kept through calls, stores and new blocks. No program in sight.
-/
import Derived.WalkKit
import Derived.WalkSmall
import Derived.Below
import Derived.Handy
import Derived.Lib.SmallJoins
namespace Go.Proofs.YtbnhfjhhbgmhfaaDoor
open Go.RowKit

/-- A block holds just these cells, none of them frozen. -/
def Blk (w : World) (b : Nat) (cs : Array Value) : Prop := ∃ t, w.heap[b]? = some (.cells cs t (0, 0))
theorem Blk.cell {w : World} {b : Nat} {cs : Array Value} (h : Blk w b cs) (o : Nat) : w.cell? ⟨b, o, none⟩ = cs[o]? := by
  obtain ⟨t, h⟩ := h
  simp [World.cell?, h]
theorem Blk.free {w : World} {b : Nat} {cs : Array Value} (h : Blk w b cs) (o : Nat) : w.frozen? ⟨b, o, none⟩ = false := by
  obtain ⟨t, h⟩ := h
  simp [World.frozen?, h]
theorem Blk.lt {w : World} {b : Nat} {cs : Array Value} (h : Blk w b cs) : b < w.heap.size := by
  obtain ⟨t, h⟩ := h
  exact (Array.getElem?_eq_some_iff.1 h).1
theorem Blk.new (w : World) (cs : Array Value) (t : TypeId) : Blk (w.alloc (.cells cs t)) w.heap.size cs := ⟨t, by show (w.heap.push _)[w.heap.size]? = _; simp⟩
theorem Blk.new' (w : World) (cs : Array Value) (t : TypeId) (b : Nat) (hb : b = w.heap.size) : Blk (w.alloc (.cells cs t)) b cs := by subst hb; exact Blk.new w cs t
theorem Blk.later {B : Nat} {w w' : World} {b : Nat} {cs : Array Value} (h : Blk w b cs) (hB : Below B w w') (hb : b < B) : Blk w' b cs := by
  obtain ⟨t, h⟩ := h
  exact ⟨t, (hB.block b hb).trans h⟩
theorem Blk.on {w w' : World} {b : Nat} {cs : Array Value} (h : Blk w b cs) (hB : Below w.heap.size w w') : Blk w' b cs := h.later hB h.lt
theorem Blk.alloc {w : World} {b : Nat} {cs : Array Value} (h : Blk w b cs) (o : Obj) : Blk (w.alloc o) b cs := h.on ((Below.refl _ _).alloc (Nat.le_refl _) o)
theorem Blk.drewN {w : World} {b : Nat} {cs : Array Value} (h : Blk w b cs) (n : Nat) : Blk (w.drewN n) b cs := h.on (below_drewN (Below.refl _ _) n)
theorem Blk.drew {w : World} {b : Nat} {cs : Array Value} (h : Blk w b cs) : Blk w.drew b cs := h.on (Below.refl _ _).drew
theorem Blk.set {w : World} {b : Nat} {cs : Array Value} (h : Blk w b cs) (i : Nat) (v : Value) : Blk (w.setCell ⟨b, i, none⟩ v) b (cs.setIfInBounds i v) := by
  obtain ⟨t, h⟩ := h
  exact ⟨t, Go.Joins.block_setCell h v⟩
theorem Blk.other {w : World} {b : Nat} {cs : Array Value} (h : Blk w b cs) (c i : Nat) (v : Value) (hb : b ≠ c) : Blk (w.setCell ⟨c, i, none⟩ v) b cs := by
  obtain ⟨t, h⟩ := h
  refine ⟨t, ?_⟩
  rw [← h]
  simp only [World.setCell]
  rw [Array.getElem?_modify, if_neg (fun e => hb e.symm)]
end Go.Proofs.YtbnhfjhhbgmhfaaDoor
