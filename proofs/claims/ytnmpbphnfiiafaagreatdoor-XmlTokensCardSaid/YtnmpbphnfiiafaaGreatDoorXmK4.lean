/-
  Does XML take all of a text? (Escape's first step.)
-/
import Derived.Test.YtnmpbphnfiiafaaGreatDoorXmK3
namespace Go.Proofs.YtnmpbphnfiiafaaGreatDoor
open Go.RowKit Go.PlainAid

/-- What is wrong with a text that is to be written. -/
def takenE (s : ByteArray) : Int := if 0 ≤ brk s 0 then 6 else if takenX s = true then 0 else 2
theorem field_spot (a b : Int) (W : World) : (Instr.field 26 (.agg #[.int .i64 a, .int .i64 b]) 0).run Tryz.prog W = .ok (.int .i64 a) W := by simp [Instr.field, asAgg, go_sem]
theorem takenF_end {s : ByteArray} {f p : Nat} (h : s.size ≤ p) : takenF s (f + 1) p = true := by
  conv => lhs; unfold takenF
  rw [if_pos h]
theorem takenF_go {s : ByteArray} {f p : Nat} (h : p < s.size) (h2 : rChar (rn s p) = true) : takenF s (f + 1) p = takenF s f (p + wd s p) := by
  conv => lhs; unfold takenF
  rw [if_neg (by omega), if_pos h2]
theorem takenF_no {s : ByteArray} {f p : Nat} (h : p < s.size) (h2 : rChar (rn s p) = false) : takenF s (f + 1) p = false := by
  conv => lhs; unfold takenF
  rw [if_neg (by omega), if_neg (by rw [h2]; simp)]

set_option maxRecDepth 100000 in
set_option maxHeartbeats 4000000 in
theorem taken_any (s : ByteArray) (w : World) (hz : s.size ≤ 1000000000000000) :
    Calls Tryz.prog 46 #[.string s] w fun e w' => e = .returned (.int .i64 (takenE s)) ∧ Below w.heap.size w w' := by
  have hck := check_any s w hz
  by_cases hbk : 0 ≤ brk s 0
  · have hx : takenE s = 6 := by unfold takenE; rw [if_pos hbk]
    rw [show spotV (brk s 0) = .agg #[.int .i64 6, .int .i64 (brk s 0)] by unfold spotV; rw [if_pos hbk]] at hck
    have HX := Lib.hid hx
    have hfs := fun W => field_spot 6 (brk s 0) W
    clear hbk hx
    go_enter Tryz.func46, Tryz.ntmps46
    go_wp2_with fail
    refine hck.mono ?_
    rintro e w1 ⟨rfl, hB⟩
    go_wp2_with fail
    go_ret
    exact ⟨ret_int HX.out.symm, hB⟩
  · have hx : takenE s = if takenF s (s.size + 1) 0 = true then 0 else 2 := by unfold takenE takenX; rw [if_neg hbk]
    rw [show spotV (brk s 0) = .agg #[.int .i64 0, .int .i64 0] by unfold spotV; rw [if_neg hbk]] at hck
    have HX := Lib.hid hx; have HBK := Lib.hid hbk
    have hfs := fun W => field_spot 0 0 W
    clear hbk hx
    go_enter Tryz.func46, Tryz.ntmps46
    go_wp2_with fail
    refine hck.mono ?_
    rintro e w1 ⟨rfl, hB⟩
    have HB := Lib.hid hB
    clear hck hB
    go_wp2_with fail
    go_loopg [] (s.size + 1) (fun f wx => ∃ pos g : Nat, wx = w1.alloc (.stringIter s pos) ∧ f + pos = s.size + 1 ∧ pos ≤ s.size ∧ s.size < pos + g ∧ ¬ 0 ≤ brk s pos ∧ takenF s (s.size + 1) 0 = takenF s g pos)
    case atStart => exact ⟨0, s.size + 1, rfl, by omega, Nat.zero_le _, by omega, (by have := HBK.out; omega), rfl⟩
    case round =>
      obtain ⟨pos, g, rfl, hg, hp, hgf, hbk, hb⟩ := hrel
      obtain ⟨g, rfl⟩ : ∃ k, g = k + 1 := ⟨g - 1, by omega⟩
      have HG := Lib.hid (And.intro hg (And.intro hgf hbk)); have HT := Lib.hid hb
      clear hg hgf hbk hb
      by_cases hlt : pos < s.size
      · have hnx := next_at (P := Tryz.prog) (b := w1.heap.size) rfl s pos hlt
        have hbs := brk_step s pos hlt
        have hr0 : ¬ rn s pos < 0 := fun h => HG.out.2.2 (by rw [hbs, if_pos h]; omega)
        have hrr := rn_right s pos hr0
        have hch := fun W => char_any ((Utf8.decode s pos).1 : Int) W
        rw [← hrr] at hch hnx
        have hin := wd_in s pos hlt
        have hwp := wd_pos s pos hlt
        rw [if_neg hr0] at hbs
        have hbk2 : ¬ 0 ≤ brk s (pos + wd s pos) := by rw [← hbs]; exact HG.out.2.2
        have HW := Lib.hid (And.intro hin (And.intro hwp hbk2))
        clear hbs hr0 hrr hin hwp hbk2
        cases hc : rChar (rn s pos) with
        | true =>
          rw [hc] at hch
          have HT2 := Lib.hid (HT.out.trans (takenF_go hlt hc))
          clear hc hlt
          go_wp2_with fail
          refine (hch _).mono ?_
          rintro e w' ⟨rfl, rfl⟩
          go_wp2_with fail
          go_roundg (s.size + 1 - (pos + wd s pos))
          case rel => exact ⟨pos + wd s pos, g, rfl, by have := HW.out; omega, HW.out.1, by have := HW.out; have := HG.out; omega, HW.out.2.2, HT2.out⟩
          case measure => have := HW.out; have := HG.out; omega
        | false =>
          rw [hc] at hch
          have HT2 := Lib.hid (HT.out.trans (takenF_no hlt hc))
          clear hc hlt
          go_wp2_with fail
          refine (hch _).mono ?_
          rintro e w' ⟨rfl, rfl⟩
          go_wp2_with fail
          first | go_ret | go_returns
          refine ⟨ret_int ?_, HB.out.trans (((Below.refl _ _).alloc (Nat.le_refl _) _).mono HB.out.size)⟩
          rw [HX.out, HT2.out]
          rfl
      · have hnx := next_end (P := Tryz.prog) (b := w1.heap.size) rfl s pos hlt
        have HT2 := Lib.hid (HT.out.trans (takenF_end (by omega)))
        clear hlt
        go_wp2_with fail
        first | go_ret | go_returns
        refine ⟨ret_int ?_, HB.out.trans (((Below.refl _ _).alloc (Nat.le_refl _) _).mono HB.out.size)⟩
        rw [HX.out, HT2.out]
        rfl
end Go.Proofs.YtnmpbphnfiiafaaGreatDoor
