/-
  Small laws on worlds: what stays where one block alone is turned.
-/
import Derived.Test.YtnmpbphnfiiafaaGreatDoorXmUd
namespace Go.Proofs.YtnmpbphnfiiafaaGreatDoor
open Go.RowKit Go.PlainAid

theorem cell_kept {W W' : World} {a : Addr} {u : Value} (h : W.cell? a = some u) (hB : Below W.heap.size W W') : W'.cell? a = some u := (hB.cell (p := a) (World.block_lt_of_cell? W a h)).trans h
/-- Below N, but for the block x, the world w' is as w was. -/
structure KeepX (N x : Nat) (w w' : World) : Prop where
  os : w'.os = w.os
  tape : w'.tape = w.tape
  output : w'.output = w.output
  size : w.heap.size ≤ w'.heap.size
  block : ∀ k, k < N → k ≠ x → w'.heap[k]? = w.heap[k]?
theorem KeepX.refl (N x : Nat) (w : World) : KeepX N x w w := ⟨rfl, rfl, rfl, Nat.le_refl _, fun _ _ _ => rfl⟩
theorem KeepX.trans {N x : Nat} {a b c : World} (h : KeepX N x a b) (k : KeepX N x b c) : KeepX N x a c :=
  ⟨k.os.trans h.os, k.tape.trans h.tape, k.output.trans h.output, Nat.le_trans h.size k.size, fun i hi hx => (k.block i hi hx).trans (h.block i hi hx)⟩
theorem KeepX.mono {N M x : Nat} {a b : World} (h : KeepX M x a b) (hM : N ≤ M) : KeepX N x a b := ⟨h.os, h.tape, h.output, h.size, fun k hk hx => h.block k (by omega) hx⟩
theorem KeepX.of {N x M : Nat} {a b : World} (h : Below M a b) (hM : N ≤ M) : KeepX N x a b := ⟨h.os, h.tape, h.output, h.size, fun k hk _ => h.block k (by omega)⟩
theorem KeepX.below {N x M : Nat} {a b : World} (h : KeepX N x a b) (hN : M ≤ N) (hx : M ≤ x) : Below M a b := ⟨h.os, h.tape, h.output, h.size, fun k hk => h.block k (by omega) (by omega)⟩
theorem KeepX.setCell {N x : Nat} {a w : World} (h : KeepX N x a w) (i : Nat) (v : Value) : KeepX N x a (w.setCell ⟨x, i, none⟩ v) :=
  h.trans ⟨rfl, rfl, rfl, by simp [World.setCell], fun k _ hx => Below.heap_setCell _ _ _ _ hx⟩
theorem KeepX.drew {N x : Nat} {a w : World} (h : KeepX N x a w) : KeepX N x a w.drew := ⟨h.os, h.tape, h.output, h.size, h.block⟩
theorem KeepX.on {N x : Nat} {a w w' : World} (h : KeepX N x a w) (hB : Below w.heap.size w w') (hN : N ≤ a.heap.size) : KeepX N x a w' :=
  h.trans (KeepX.of hB (Nat.le_trans hN h.size))
theorem KeepX.cell {N x : Nat} {w w' : World} (h : KeepX N x w w') {k j : Nat} (hk : k < N) (hx : k ≠ x) : w'.cell? ⟨k, j, none⟩ = w.cell? ⟨k, j, none⟩ := World.cell?_of_block (w := w) (h.block k hk hx)
theorem KeepX.blk {N x : Nat} {w w' : World} (h : KeepX N x w w') {b : Nat} {cs : Array Value} (hb : Blk w b cs) (hk : b < N) (hx : b ≠ x) : Blk w' b cs := by
  obtain ⟨t, hb⟩ := hb
  exact ⟨t, (h.block b hk hx).trans hb⟩
theorem Blk.lt' {w : World} {b : Nat} {cs : Array Value} (h : Blk w b cs) : b < w.heap.size := by
  obtain ⟨t, h⟩ := h
  exact lt_some h
theorem tl_size {X : ByteArray} (h : X.size = 0) : X = ⟨#[]⟩ := ByteArray.ext (Array.eq_empty_of_size_eq_zero h)
end Go.Proofs.YtnmpbphnfiiafaaGreatDoor
