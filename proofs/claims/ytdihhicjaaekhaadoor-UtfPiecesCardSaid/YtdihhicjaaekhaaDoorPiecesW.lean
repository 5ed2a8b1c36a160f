/-
  The walk of the law UtfPieces: the first broken byte of a text, the rune at each place, and how many pieces there are; for every text and place.
-/
import Derived.Test.YtdihhicjaaekhaaDoorRows
import Derived.Test.YtdihhicjaaekhaaDoorUtfW
namespace Go.Proofs.YtdihhicjaaekhaaDoor
open Go.RowKit Go.PlainAid

set_option maxHeartbeats 1000000 in
theorem utfPieces_walk (s : ByteArray) (i : Int) (w : World) (_hi : -9223372036854775808 ≤ i) (_hi' : i ≤ 9223372036854775807) (hr : s.size ≤ 140737488351232) (hT : Tabs w) :
    Calls Tryd.prog 6 #[.string s, .int .i64 i] w fun e w' => e = .returned (.bool true) ∧ Below w.heap.size w w' := by
  have hs : s.size ≤ 1000000000000000 := by omega
  have c1 := fun w => check_any s w hs
  have c2 := fun w => rBroken_any s w hs
  have c3 := fun w => at_any s i w
  have c4 := fun w => rForm_any s i hs w
  have c5 := fun w => count_any s w hs
  have c6 := fun w => rCount_any s w hs
  generalize cnt s 0 = x1 at c5 c6
  generalize formZ s i = x2 at c3 c4
  generalize brk s 0 = k at c1 c2
  have H1 := Lib.hid c1; have H2 := Lib.hid c2; have H3 := Lib.hid c3; have H4 := Lib.hid c4; have H5 := Lib.hid c5; have H6 := Lib.hid c6
  clear c1 c2 c3 c4 c5 c6
  by_cases hk : 0 ≤ k
  · have e1 : spotV k = .agg #[.int .i64 6, .int .i64 k] := if_pos hk
    rw [e1] at H1
    clear e1
    go_enter Tryd.func6, Tryd.ntmps6
    go_wp2_with (first | (go_at_call 11; refine (wakes_any _ hT).mono ?_; rintro e w1 ⟨rfl, hB1⟩) | (go_at_call 37; refine (H1.out _).mono ?_; rintro e w2 ⟨rfl, hB2⟩) | (go_at_call 38; refine (H2.out _).mono ?_; rintro e w3 ⟨rfl, rfl⟩))
    have b2 := hB1.trans (hB2.mono hB1.size)
    have hz := b2.size
    have b4 := fun o1 o2 => (b2.alloc hz o1).alloc (by simp; omega) o2
    refine (H3.out _ (hT.later (b4 _ _))).mono ?_
    rintro e w5 ⟨rfl, hB5⟩
    have b5 := (b4 _ _).trans (hB5.mono (by simp; omega))
    have q0 : w5.cell? ⟨w2.heap.size, 0, none⟩ = some (.int .i64 6) := (hB5.cell (p := ⟨w2.heap.size, 0, none⟩) (by simp; omega)).trans (by go_simp)
    have q1 : w5.cell? ⟨w2.heap.size, 1, none⟩ = some (.int .i64 k) := (hB5.cell (p := ⟨w2.heap.size, 1, none⟩) (by simp; omega)).trans (by go_simp)
    have q2 : w5.cell? ⟨w2.heap.size + 1, 0, none⟩ = some (.int .i64 6) := (hB5.cell (p := ⟨w2.heap.size + 1, 0, none⟩) (by simp)).trans (by go_simp)
    have q3 : w5.cell? ⟨w2.heap.size + 1, 1, none⟩ = some (.int .i64 k) := (hB5.cell (p := ⟨w2.heap.size + 1, 1, none⟩) (by simp)).trans (by go_simp)
    go_wp2_with (first | (go_at_call 13; refine (H4.out _).mono ?_; rintro e w3 ⟨rfl, rfl⟩) | (go_at_call 14; refine (H5.out _).mono ?_; rintro e w6 ⟨rfl, hB6⟩) | (go_at_call 39; refine (H6.out _).mono ?_; rintro e w3 ⟨rfl, rfl⟩))
    go_ret
    exact ⟨rfl, b5.trans (hB6.mono b5.size)⟩
  · have e1 : spotV k = .agg #[.int .i64 0, .int .i64 0] := if_neg hk
    rw [e1] at H1
    clear e1
    go_enter Tryd.func6, Tryd.ntmps6
    go_wp2_with (first | (go_at_call 11; refine (wakes_any _ hT).mono ?_; rintro e w1 ⟨rfl, hB1⟩) | (go_at_call 37; refine (H1.out _).mono ?_; rintro e w2 ⟨rfl, hB2⟩) | (go_at_call 38; refine (H2.out _).mono ?_; rintro e w3 ⟨rfl, rfl⟩))
    have b2 := hB1.trans (hB2.mono hB1.size)
    have hz := b2.size
    have b4 := fun o1 o2 => (b2.alloc hz o1).alloc (by simp; omega) o2
    refine (H3.out _ (hT.later (b4 _ _))).mono ?_
    rintro e w5 ⟨rfl, hB5⟩
    have b5 := (b4 _ _).trans (hB5.mono (by simp; omega))
    have q0 : w5.cell? ⟨w2.heap.size, 0, none⟩ = some (.int .i64 0) := (hB5.cell (p := ⟨w2.heap.size, 0, none⟩) (by simp; omega)).trans (by go_simp)
    have q1 : w5.cell? ⟨w2.heap.size, 1, none⟩ = some (.int .i64 0) := (hB5.cell (p := ⟨w2.heap.size, 1, none⟩) (by simp; omega)).trans (by go_simp)
    have q2 : w5.cell? ⟨w2.heap.size + 1, 0, none⟩ = some (.int .i64 0) := (hB5.cell (p := ⟨w2.heap.size + 1, 0, none⟩) (by simp)).trans (by go_simp)
    have q3 : w5.cell? ⟨w2.heap.size + 1, 1, none⟩ = some (.int .i64 0) := (hB5.cell (p := ⟨w2.heap.size + 1, 1, none⟩) (by simp)).trans (by go_simp)
    go_wp2_with (first | (go_at_call 13; refine (H4.out _).mono ?_; rintro e w3 ⟨rfl, rfl⟩) | (go_at_call 14; refine (H5.out _).mono ?_; rintro e w6 ⟨rfl, hB6⟩) | (go_at_call 39; refine (H6.out _).mono ?_; rintro e w3 ⟨rfl, rfl⟩))
    go_ret
    exact ⟨rfl, b5.trans (hB6.mono b5.size)⟩
end Go.Proofs.YtdihhicjaaekhaaDoor
