/-
  Patterns of dates: the law's own words: wakes, same.
-/
import Derived.Test.YtbnhfjhhbgmhfaaDoorDpN
import Derived.Test.YtbnhfjhhbgmhfaaDoorDpX
namespace Go.Proofs.YtbnhfjhhbgmhfaaDoor
open Go.RowKit Go.PlainAid

/-- What wakes reads. -/
def wakeL : List PF := [(100, 1, ⟨#[]⟩), (0, 0, ⟨#[46, 32]⟩), (77, 3, ⟨#[]⟩), (0, 0, ⟨#[32]⟩), (121, 1, ⟨#[]⟩)]
def wakeS : ByteArray := ⟨#[100, 46, 32, 77, 77, 77, 32, 121]⟩
theorem wake_parse : dpParse wakeS = (wakeL, 0, 0) := by decide +kernel
theorem wake_of : dpOf wakeL = (⟨#[121, 77, 77, 77, 100]⟩, 0) := by decide +kernel
theorem wake_sz : PFsz wakeL := by
  refine ⟨by decide, ?_⟩
  intro x hx
  simp only [wakeL, List.mem_cons, List.not_mem_nil, or_false] at hx
  rcases hx with rfl | rfl | rfl | rfl | rfl <;> decide

set_option maxRecDepth 100000 in
set_option maxHeartbeats 2000000 in
theorem wakes_any (w : World) (hG : Gl w) : Calls Tryd.prog 11 #[] w fun e w' => e = .returned (.bool true) ∧ Below w.heap.size w w' := by
  have hp := dparse_any wakeS w (by decide)
  rw [wake_parse] at hp
  have hp2 : Calls Tryd.prog 12 #[.string ⟨#[100, 46, 32, 77, 77, 77, 32, 121]⟩] w fun e w' => DpR w.heap.size (wakeL, 0, 0) e w' ∧ Below w.heap.size w w' := hp
  have hof := fun v W h hg => dOf_any v wakeL W h wake_sz hg
  rw [wake_of] at hof
  have HOF := Lib.hid hof
  clear hp hof
  go_enter Tryd.func11, Tryd.ntmps11
  go_wp2_with fail
  refine hp2.mono ?_
  rintro e w1 ⟨⟨v, rfl, hrow⟩, hB1⟩
  have hat := hrow.at (by decide)
  obtain ⟨va, vc, rfl⟩ := hrow.form
  have hat2 := hat.later ((Below.refl w1.heap.size w1).alloc (Nat.le_refl _) (.cells #[.int .i64 0, .int .i64 0] 26))
  have hG2 := (GB.start (hG.later hB1)).alloc (.cells #[.int .i64 0, .int .i64 0] 26)
  have hz := hB1.size
  have sp := Blk.new w1 #[.int .i64 0, .int .i64 0] 26
  clear hp2 hat
  go_wp2_with fail
  refine (HOF.out _ _ hat2 hG2.1).mono ?_
  rintro e w2 ⟨rfl, hB2⟩
  have sp2 := sp.on hB2
  have c0 := sp2.cell 0
  have c1 := sp2.cell 1
  simp at c0 c1
  have hlen : wakeL.length = 5 := rfl
  have hBN : Below w.heap.size w w2 := (hB1.alloc hB1.size _).trans (hB2.mono (by simp; omega))
  go_wp2_with fail
  go_ret
  exact ⟨rfl, hBN⟩

set_option maxRecDepth 100000 in
set_option maxHeartbeats 2000000 in
theorem same_yes (va vb : Value) (l : List PF) (w : World) (ha : PFAt w va l) (hb : PFAt w vb l) :
    Calls Tryd.prog 14 #[va, vb] w fun e w' => e = .returned (.bool true) ∧ Below w.heap.size w w' := by
  obtain ⟨a, cap, rfl, hlen, hca⟩ := ha
  obtain ⟨b, capb, rfl, _, hcb⟩ := hb
  have HCA := Lib.hid hca
  have HCB := Lib.hid hcb
  clear hca hcb
  go_enter Tryd.func14, Tryd.ntmps14
  go_wp2_with fail
  go_loopg [13] l.length (fun g s13 wr => ∃ i : Nat, s13 = .int .i64 (i : Int) ∧ i + g = l.length ∧ Below w.heap.size w wr)
  case atStart => exact ⟨0, rfl, by omega, Below.refl _ _⟩
  case round =>
    obtain ⟨i, rfl, hg, hB⟩ := hrel
    by_cases hi : i < l.length
    · have hiI : (i : Int) < l.length := by omega
      have hi0 : (0 : Int) ≤ i := by omega
      obtain ⟨ga, offa, rfl, hga, p0, p1, p2⟩ := HCA.out i hi
      obtain ⟨gb, offb, rfl, hgb, q0, q1, q2⟩ := HCB.out i hi
      generalize l[i] = x at *
      have a0 := (hB.cell (p := ⟨ga, _, none⟩) hga).trans p0
      have a1 := (hB.cell (p := ⟨ga, _, none⟩) hga).trans p1
      have a2 := (hB.cell (p := ⟨ga, _, none⟩) hga).trans p2
      have b0 := (hB.cell (p := ⟨gb, _, none⟩) hgb).trans q0
      have b1 := (hB.cell (p := ⟨gb, _, none⟩) hgb).trans q1
      have b2 := (hB.cell (p := ⟨gb, _, none⟩) hgb).trans q2
      obtain ⟨xb, xc, xt⟩ := x
      simp only at a0 a1 a2 b0 b1 b2
      clear p0 p1 p2 q0 q1 q2
      go_upto_region 6 with fail
      go_quiet (fail)
      have hBn := bdrN hB nq
      go_wp2_with fail
      go_roundg (gk - 1)
      case rel => exact ⟨i + 1, by push_cast; rfl, by omega, hBn⟩
      case measure => omega
    · have hiI : ¬ (i : Int) < l.length := by omega
      go_wp2_with fail
      go_ret
      exact ⟨rfl, hB⟩
end Go.Proofs.YtbnhfjhhbgmhfaaDoor
