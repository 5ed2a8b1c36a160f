/-
  One block that a call may write; the scanner's closures.
-/
import Derived.Test.YtgbemhehbhlgpaaGreatDoorPlP
import Derived.RegionTactic
import Derived.ChangeAlike
namespace Go.Proofs.YtgbemhehbhlgpaaGreatDoor
open Go.RowKit Go.PlainAid

/-- Nothing that was there has turned but block b. -/
structure Only (b : Nat) (w w' : World) : Prop where
  os : w'.os = w.os
  tape : w'.tape = w.tape
  output : w'.output = w.output
  size : w.heap.size ≤ w'.heap.size
  block : ∀ k, k < w.heap.size → k ≠ b → w'.heap[k]? = w.heap[k]?
theorem Only.refl (b : Nat) (w : World) : Only b w w := ⟨rfl, rfl, rfl, Nat.le_refl _, fun _ _ _ => rfl⟩
theorem Only.trans {b : Nat} {a c d : World} (h : Only b a c) (k : Only b c d) : Only b a d :=
  ⟨k.os.trans h.os, k.tape.trans h.tape, k.output.trans h.output, Nat.le_trans h.size k.size, fun i hi hb => (k.block i (Nat.lt_of_lt_of_le hi h.size) hb).trans (h.block i hi hb)⟩
theorem Only.of {b : Nat} {w w' : World} (h : Below w.heap.size w w') : Only b w w' := ⟨h.os, h.tape, h.output, h.size, fun k hk _ => h.block k hk⟩
theorem Only.setCell {b : Nat} {a w : World} (h : Only b a w) (o : Nat) (u : Value) : Only b a (w.setCell ⟨b, o, none⟩ u) :=
  h.trans ⟨rfl, rfl, rfl, by simp [World.setCell], fun k _ hk => Below.heap_setCell _ _ _ _ hk⟩
theorem Only.drew {b : Nat} {a w : World} (h : Only b a w) : Only b a w.drew := ⟨h.os, h.tape, h.output, h.size, h.block⟩
theorem Only.drewN {b : Nat} {a w : World} (h : Only b a w) (n : Nat) : Only b a (w.drewN n) := ⟨h.os, h.tape, h.output, h.size, h.block⟩
theorem Only.on {b : Nat} {a w w' : World} (h : Only b a w) (hB : Below w.heap.size w w') : Only b a w' := h.trans (.of hB)
theorem Only.alloc {b : Nat} {a w : World} (h : Only b a w) (o : Obj) : Only b a (w.alloc o) := h.on ((Below.refl _ _).alloc (Nat.le_refl _) o)
theorem Only.below {b B : Nat} {w w' : World} (h : Only b w w') (hb : B ≤ b) (hB : B ≤ w.heap.size) : Below B w w' := ⟨h.os, h.tape, h.output, h.size, fun k hk => h.block k (by omega) (by omega)⟩
theorem Blk.keep {w w' : World} {b c : Nat} {cs : Array Value} (h : Blk w c cs) (hO : Only b w w') (hne : c ≠ b) : Blk w' c cs := by
  have hl := h.lt
  obtain ⟨t, h⟩ := h
  exact ⟨t, (hO.block c hl hne).trans h⟩
theorem cell_keep {w w' : World} {b g o : Nat} {v : Value} (h : w.cell? ⟨g, o, none⟩ = some v) (hO : Only b w w') (hne : g ≠ b) : w'.cell? ⟨g, o, none⟩ = some v := by
  have hl := World.block_lt_of_cell? w ⟨g, o, none⟩ h
  rw [← h]
  simp only [World.cell?, hO.block g hl hne]
theorem Blk.bdrew {w : World} {b : Nat} {cs : Array Value} (h : Blk w b cs) (n : Nat) : Blk (w.drewN n) b cs := by
  obtain ⟨t, h⟩ := h
  exact ⟨t, h⟩

set_option maxRecDepth 100000 in
theorem digit_any (c : Int) (w : World) : Calls Tryz.prog 61 #[.int .u8 c] w fun e w' => e = .returned (.bool (bDg c)) ∧ w = w' := by
  go_enter Tryz.func61, Tryz.ntmps61
  go_wp2
  all_goals (go_ret; refine ⟨ret_bool ?_, rfl⟩; rw [Bool.eq_iff_iff]; simp_all [bDg]; try omega)
set_option maxRecDepth 100000 in
theorem letter_any (c : Int) (w : World) : Calls Tryz.prog 62 #[.int .u8 c] w fun e w' => e = .returned (.bool (bLo c)) ∧ w = w' := by
  go_enter Tryz.func62, Tryz.ntmps62
  go_wp2
  all_goals (go_ret; refine ⟨ret_bool ?_, rfl⟩; rw [Bool.eq_iff_iff]; simp_all [bLo]; try omega)
end Go.Proofs.YtgbemhehbhlgpaaGreatDoor
