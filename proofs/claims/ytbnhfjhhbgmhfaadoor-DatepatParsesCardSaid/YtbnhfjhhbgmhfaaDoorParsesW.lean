/-
  The walk of DatepatParses.
-/
import Derived.Test.YtbnhfjhhbgmhfaaDoorDpO
import Derived.Test.YtbnhfjhhbgmhfaaDoorDpZ
namespace Go.Proofs.YtbnhfjhhbgmhfaaDoor
open Go.RowKit Go.PlainAid

set_option maxRecDepth 100000 in
set_option maxHeartbeats 2000000 in
theorem datepatParses_walk (s : ByteArray) (w : World) (hs : s.size ≤ 140737488351232) (hG : Gl w) :
    Calls Tryd.prog 3 #[.string s] w fun e w' => e = .returned (.bool true) ∧ Below w.heap.size w w' := by
  have hp := fun W => dparse_any s W (by omega)
  have hq := fun W => rDparse_any s W (by omega)
  have hll := dpParse_len s
  generalize dpParse s = r at *
  obtain ⟨L, E, A⟩ := r
  go_enter Tryd.func3, Tryd.ntmps3
  go_wp2_with fail
  refine (wakes_any _ hG).mono ?_
  rintro e w1 ⟨rfl, hB1⟩
  go_wp2_with fail
  refine (hp _).mono ?_
  rintro e w2 ⟨⟨v, rfl, hrow⟩, hB2⟩
  have hat := hrow.at hll
  obtain ⟨va, vc, rfl⟩ := hrow.form
  have hB3 := hB1.trans (hB2.mono hB1.size)
  have hz3 := hB3.size
  have sp := Blk.new w2 #[.int .i64 E, .int .i64 A] 26
  have hB3a := hB3.alloc hz3 (.cells #[.int .i64 E, .int .i64 A] 26)
  have hata := hat.later ((Below.refl w2.heap.size w2).alloc (Nat.le_refl _) (.cells #[.int .i64 E, .int .i64 A] 26))
  clear hp hrow hat
  go_wp2_with fail
  refine (hq _).mono ?_
  rintro e w4 ⟨⟨v, rfl, hrow⟩, hB4⟩
  have hat := hrow.at hll
  obtain ⟨vb, vd, rfl⟩ := hrow.form
  have hB5 := hB3a.trans (hB4.mono hB3a.size)
  have hata4 := hata.later hB4
  have sp4 := sp.on hB4
  have hz5 := hB5.size
  have sq := Blk.new w4 #[.int .i64 E, .int .i64 A] 26
  have hB5a := hB5.alloc hz5 (.cells #[.int .i64 E, .int .i64 A] 26)
  have hA := (Below.refl w4.heap.size w4).alloc (Nat.le_refl _) (.cells #[.int .i64 E, .int .i64 A] 26)
  have hata5 := hata4.later hA
  have hatb5 := hat.later hA
  have sp5 := sp4.on hA
  have hlt2 := sp4.lt
  clear hq hrow hat hata hata4 sp sp4 hA
  go_wp2_with fail
  refine (same_yes _ _ L _ hata5 hatb5).mono ?_
  rintro e w6 ⟨rfl, hB6⟩
  have sp6 := sp5.on hB6
  have sq6 := sq.on hB6
  have c0 := sp6.cell 0
  have c1 := sp6.cell 1
  have d0 := sq6.cell 0
  have d1 := sq6.cell 1
  simp at c0 c1 d0 d1
  have hBN := hB5a.trans (hB6.mono hB5a.size)
  go_wp2_with fail
  go_ret
  exact ⟨rfl, hBN⟩
end Go.Proofs.YtbnhfjhhbgmhfaaDoor
