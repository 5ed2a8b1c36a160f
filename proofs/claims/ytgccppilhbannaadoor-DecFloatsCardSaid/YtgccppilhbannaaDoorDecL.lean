/-
  Structs in memory: a decimal's three cells, a place's two; the walk of 'wakes'.
-/
import Derived.Test.YtgccppilhbannaaDoorDecG
import Derived.Test.YtgccppilhbannaaDoorDecU
import Derived.Handy
namespace Go.Proofs.YtgccppilhbannaaDoor
open Go.RowKit Go.PlainAid

/-- A decimal lies in a block. -/
def Dec3 (w : World) (b : Nat) (neg : Bool) (ds : ByteArray) (sc : Int) : Prop :=
  w.cell? ⟨b, 0, none⟩ = some (.bool neg) ∧ w.cell? ⟨b, 1, none⟩ = some (.string ds) ∧ w.cell? ⟨b, 2, none⟩ = some (.int .i64 sc)
theorem Dec3.new (w : World) (neg : Bool) (ds : ByteArray) (sc : Int) : Dec3 (w.alloc (.cells #[.bool neg, .string ds, .int .i64 sc] 23)) w.heap.size neg ds sc := ⟨by go_simp, by go_simp, by go_simp⟩
theorem Dec3.alloc {w : World} {b : Nat} {neg : Bool} {ds : ByteArray} {sc : Int} (h : Dec3 w b neg ds sc) (o : Obj) : Dec3 (w.alloc o) b neg ds sc := by
  have hb : b < w.heap.size := World.block_lt_of_cell? w ⟨b, 0, none⟩ h.1
  have hB := (Below.refl w.heap.size w).alloc (Nat.le_refl _) o
  exact ⟨(hB.cell (p := ⟨b, 0, none⟩) hb).trans h.1, (hB.cell (p := ⟨b, 1, none⟩) hb).trans h.2.1, (hB.cell (p := ⟨b, 2, none⟩) hb).trans h.2.2⟩
theorem Dec3.later {B : Nat} {w w' : World} {b : Nat} {neg : Bool} {ds : ByteArray} {sc : Int} (h : Dec3 w b neg ds sc) (hB : Below B w w') (hb : b < B) : Dec3 w' b neg ds sc :=
  ⟨(hB.cell (p := ⟨b, 0, none⟩) hb).trans h.1, (hB.cell (p := ⟨b, 1, none⟩) hb).trans h.2.1, (hB.cell (p := ⟨b, 2, none⟩) hb).trans h.2.2⟩
theorem Dec3.on {w w' : World} {b : Nat} {neg : Bool} {ds : ByteArray} {sc : Int} (h : Dec3 w b neg ds sc) (hB : Below w.heap.size w w') : Dec3 w' b neg ds sc :=
  h.later hB (World.block_lt_of_cell? w ⟨b, 0, none⟩ h.1)
/-- A place in a text, told in a block. -/
def Spot2 (w : World) (b : Nat) (e at_ : Int) : Prop := w.cell? ⟨b, 0, none⟩ = some (.int .i64 e) ∧ w.cell? ⟨b, 1, none⟩ = some (.int .i64 at_)
theorem Spot2.new (w : World) (e k : Int) : Spot2 (w.alloc (.cells #[.int .i64 e, .int .i64 k] 27)) w.heap.size e k := ⟨by go_simp, by go_simp⟩
theorem Spot2.alloc {w : World} {b : Nat} {e k : Int} (h : Spot2 w b e k) (o : Obj) : Spot2 (w.alloc o) b e k := by
  have hb : b < w.heap.size := World.block_lt_of_cell? w ⟨b, 0, none⟩ h.1
  have hB := (Below.refl w.heap.size w).alloc (Nat.le_refl _) o
  exact ⟨(hB.cell (p := ⟨b, 0, none⟩) hb).trans h.1, (hB.cell (p := ⟨b, 1, none⟩) hb).trans h.2⟩
theorem Spot2.on {w w' : World} {b : Nat} {e k : Int} (h : Spot2 w b e k) (hB : Below w.heap.size w w') : Spot2 w' b e k :=
  have hb : b < w.heap.size := World.block_lt_of_cell? w ⟨b, 0, none⟩ h.1
  ⟨(hB.cell (p := ⟨b, 0, none⟩) hb).trans h.1, (hB.cell (p := ⟨b, 1, none⟩) hb).trans h.2⟩

theorem wake_parse : parseP ⟨#[45, 48, 46, 48, 53]⟩ = (true, ⟨#[53]⟩, 2, 0, 0) := by decide +kernel
theorem wake_print : printR true ⟨#[53]⟩ 2 = (⟨#[45, 48, 46, 48, 53]⟩, 0) := by decide +kernel

set_option maxRecDepth 100000 in
set_option maxHeartbeats 1000000 in
theorem wakes_any (w : World) : Calls Tryd.prog 12 #[] w fun e w' => e = .returned (.bool true) ∧ Below w.heap.size w w' := by
  have hp := fun W => parse_any ⟨#[45, 48, 46, 48, 53]⟩ W (by decide)
  rw [wake_parse] at hp
  have hq := fun W => print_any true ⟨#[53]⟩ 2 W
  rw [wake_print] at hq
  go_enter Tryd.func12, Tryd.ntmps12
  go_wp2_with fail
  refine (hp _).mono ?_
  rintro e w1 ⟨rfl, hB1⟩
  go_wp2_with fail
  refine (hq _).mono ?_
  rintro e w2 ⟨rfl, hB2⟩
  obtain ⟨hc, hf⟩ := bcell hB2
  have hBN : Below w.heap.size w w2 := ((hB1.alloc hB1.size _).alloc (by have := hB1.size; simp; omega) _).trans (hB2.mono (by have := hB1.size; simp; omega))
  go_wp2
  go_ret
  exact ⟨rfl, hBN⟩
end Go.Proofs.YtgccppilhbannaaDoor
