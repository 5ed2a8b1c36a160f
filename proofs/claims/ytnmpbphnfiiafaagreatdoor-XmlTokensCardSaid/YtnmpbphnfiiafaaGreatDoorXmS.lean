/-
  The reader of files: what ends the walk, what has to stand there, the next byte.
-/
import Derived.Test.YtnmpbphnfiiafaaGreatDoorXmR
namespace Go.Proofs.YtnmpbphnfiiafaaGreatDoor
open Go.RowKit Go.PlainAid

/-- The walk is ended: what is wrong, and where. -/
abbrev Died (e a : Int) : Ending := .panicked [{ v := .iface 65 (.agg #[.int .i64 e, .int .i64 a]), recovered := false }]
/-- The reader's own block. -/
def BlkR (w : World) (rb : Nat) (cs : Array Value) : Prop := w.heap[rb]? = some (.cells cs 72 (0, 0))
theorem BlkR.cell {w : World} {b : Nat} {cs : Array Value} (h : BlkR w b cs) (o : Nat) : w.cell? ⟨b, o, none⟩ = cs[o]? := cellH h o
theorem BlkR.free {w : World} {b : Nat} {cs : Array Value} (h : BlkR w b cs) (o : Nat) : w.frozen? ⟨b, o, none⟩ = false := freeH h o
theorem BlkR.lt' {w : World} {b : Nat} {cs : Array Value} (h : BlkR w b cs) : b < w.heap.size := lt_some h
theorem BlkR.on {w w' : World} {b : Nat} {cs : Array Value} (h : BlkR w b cs) (hB : Below w.heap.size w w') : BlkR w' b cs := (hB.block b h.lt').trans h
theorem BlkR.set {w : World} {b : Nat} {cs : Array Value} (h : BlkR w b cs) (i : Nat) (v : Value) : BlkR (w.setCell ⟨b, i, none⟩ v) b (cs.setIfInBounds i v) := setH h i v
/-- A reader in memory: its text, its place. -/
structure Rdr (rb : Nat) (s : ByteArray) (at_ : Nat) (cs : Array Value) (w : World) : Prop where
  blk : BlkR w rb cs
  c0 : cs[0]? = some (.string s)
  c1 : cs[1]? = some (.int .i64 (at_ : Int))
section
variable {rb : Nat} {s : ByteArray} {at_ : Nat} {cs : Array Value} {w : World}
theorem Rdr.cell0 (h : Rdr rb s at_ cs w) : w.cell? ⟨rb, 0, none⟩ = some (.string s) := (h.blk.cell 0).trans h.c0
theorem Rdr.cell1 (h : Rdr rb s at_ cs w) : w.cell? ⟨rb, 1, none⟩ = some (.int .i64 (at_ : Int)) := (h.blk.cell 1).trans h.c1
theorem Rdr.on (h : Rdr rb s at_ cs w) {w' : World} (hB : Below w.heap.size w w') : Rdr rb s at_ cs w' := ⟨h.blk.on hB, h.c0, h.c1⟩
theorem Rdr.set (h : Rdr rb s at_ cs w) (a : Nat) : Rdr rb s a (cs.setIfInBounds 1 (.int .i64 (a : Int))) (w.setCell ⟨rb, 1, none⟩ (.int .i64 (a : Int))) := by
  have hlt : 1 < cs.size := (Array.getElem?_eq_some_iff.1 h.c1).1
  exact ⟨h.blk.set 1 _, by rw [Array.getElem?_setIfInBounds_ne (by omega)]; exact h.c0, Array.getElem?_setIfInBounds_self_of_lt hlt⟩
end
theorem set_twice (cs : Array Value) (a b : Value) : (cs.setIfInBounds 1 a).setIfInBounds 1 b = cs.setIfInBounds 1 b := Array.setIfInBounds_setIfInBounds _

set_option maxRecDepth 100000 in
theorem fail_any (p : Value) (e a : Int) (w : World) : Calls Tryz.prog 66 #[p, .int .i64 e, .int .i64 a] w fun en w' => en = Died e a ∧ w = w' := by
  go_enter Tryz.func66, Tryz.ntmps66
  go_wp2_with fail
  exact ⟨rfl, rfl, rfl⟩
set_option maxRecDepth 100000 in
theorem want_yes (p : Value) (w : World) : Calls Tryz.prog 41 #[p, .bool true] w fun en w' => en = .returned (.tuple #[]) ∧ w = w' := by
  go_enter Tryz.func41, Tryz.ntmps41
  go_wp2_with fail
  go_end0
  exact ⟨rfl, rfl⟩
set_option maxRecDepth 100000 in
theorem want_no {rb : Nat} {s : ByteArray} {at_ : Nat} {cs : Array Value} {w : World} (h : Rdr rb s at_ cs w) : Calls Tryz.prog 41 #[.pointer (some ⟨rb, 0, none⟩), .bool false] w fun en w' => en = Died 140 at_ ∧ w = w' := by
  have c1 := h.cell1
  have hf := fail_any (.pointer (some ⟨rb, 0, none⟩)) 140 (at_ : Int) w
  go_enter Tryz.func41, Tryz.ntmps41
  go_wp2_with fail
  refine hf.mono ?_
  rintro e w' ⟨rfl, rfl⟩
  go_wp2_with fail
  exact ⟨rfl, rfl, rfl⟩
set_option maxRecDepth 100000 in
set_option maxHeartbeats 1000000 in
theorem next_any {rb : Nat} {s : ByteArray} {at_ : Nat} {cs : Array Value} {w : World} (h : Rdr rb s at_ cs w) (ha : at_ ≤ s.size) :
    Calls Tryz.prog 43 #[.pointer (some ⟨rb, 0, none⟩)] w fun en w' => en = .returned (.int .u8 (bt s at_)) ∧ Below w.heap.size w w' := by
  have c0 := h.cell0
  have c1 := h.cell1
  have hb := get_bt s
  have h0 : (0 : Int) ≤ at_ := by omega
  have hB := Below.refl w.heap.size w
  by_cases hlt : at_ < s.size
  · have hI : (at_ : Int) < s.size := by omega
    have HR := Lib.hid h
    clear h
    go_enter Tryz.func43, Tryz.ntmps43
    go_upto_region 1 with fail
    go_quiet (fail)
    have hB1 := bdN0 hB nq
    have c0 := (HR.out.on hB1).cell0
    have c1 := (HR.out.on hB1).cell1
    generalize w.drewN nq = w1 at *
    go_upto_region 2 with fail
    go_quiet (fail)
    go_wp2_with fail
    go_ret
    exact ⟨rfl, bdN0 hB1 nq⟩
  · have hI : ¬ (at_ : Int) < s.size := by omega
    have e0 : bt s at_ = 0 := bt_end s (by omega)
    rw [e0]
    clear h hb e0
    go_enter Tryz.func43, Tryz.ntmps43
    go_upto_region 1 with fail
    go_quiet (fail)
    go_wp2_with fail
    go_ret
    exact ⟨rfl, bdN0 hB nq⟩
end Go.Proofs.YtnmpbphnfiiafaaGreatDoor
