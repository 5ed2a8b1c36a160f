/-
  dec.Round: the region in which the digits are filled up.
-/
import Derived.Test.YtgccppilhbannaaDoorDecZ
import Derived.Deep.RegionHeld3
namespace Go.Proofs.YtgccppilhbannaaDoor
open Go.RowKit Go.PlainAid

theorem scaled_yes {neg : Bool} {ds : ByteArray} {sc scale : Int} (hr : rightB neg ds sc = true) (h1 : 0 ≤ scale) (h2 : scale ≤ 400) (w : World) :
    Calls Tryd.prog 54 #[.agg #[.bool neg, .string ds, .int .i64 sc], .int .i64 scale] w fun e w' => e = .returned (.int .i64 0) ∧ Below w.heap.size w w' := by
  have hB0 := (Below.refl w.heap.size w).alloc (Nat.le_refl _) (.cells #[.bool neg, .string ds, .int .i64 sc] 23)
  have hchk := fun W => check_yes hr W
  clear hr
  go_enter Tryd.func54, Tryd.ntmps54
  go_wp2_with fail
  refine (hchk _).mono ?_
  rintro e w1 ⟨rfl, hB1⟩
  have hBw := hB0.trans (hB1.mono (by simp))
  go_wp2
  go_ret
  exact ⟨rfl, hBw⟩
theorem scaled_no {neg : Bool} {ds : ByteArray} {sc scale : Int} (h : rightB neg ds sc = false ∨ scale < 0 ∨ 400 < scale) (w : World) :
    Calls Tryd.prog 54 #[.agg #[.bool neg, .string ds, .int .i64 sc], .int .i64 scale] w fun e w' => e = .returned (.int .i64 2) ∧ Below w.heap.size w w' := by
  have hB0 := (Below.refl w.heap.size w).alloc (Nat.le_refl _) (.cells #[.bool neg, .string ds, .int .i64 sc] 23)
  cases hr : rightB neg ds sc with
  | false =>
    have hchk := fun W => check_no hr W
    clear hr h
    go_enter Tryd.func54, Tryd.ntmps54
    go_wp2_with fail
    refine (hchk _).mono ?_
    rintro e w1 ⟨rfl, hB1⟩
    have hBw := hB0.trans (hB1.mono (by simp))
    go_wp2
    go_ret
    exact ⟨rfl, hBw⟩
  | true =>
    have hchk := fun W => check_yes hr W
    have h : scale < 0 ∨ 400 < scale := by rcases h with h | h; { rw [hr] at h; cases h }; exact h
    clear hr
    by_cases h1 : scale < 0
    · go_enter Tryd.func54, Tryd.ntmps54
      go_wp2_with fail
      refine (hchk _).mono ?_
      rintro e w1 ⟨rfl, hB1⟩
      have hBw := hB0.trans (hB1.mono (by simp))
      go_wp2
      go_ret
      exact ⟨rfl, hBw⟩
    · have h2 : 400 < scale := by omega
      go_enter Tryd.func54, Tryd.ntmps54
      go_wp2_with fail
      refine (hchk _).mono ?_
      rintro e w1 ⟨rfl, hB1⟩
      have hBw := hB0.trans (hB1.mono (by simp))
      go_wp2
      go_ret
      exact ⟨rfl, hBw⟩

/-- strings.Repeat in a world behind a given one: a cell below stands. -/
theorem repeat_keep {B : Nat} {W0 W : World} {n : Int} {a : Addr} {v : Value} (h0 : 0 ≤ n) (hk : n ≤ 1000000000000) (ha : a.block < B) (hc : W.cell? a = some v) (hb : Below B W0 W) (hW : B ≤ W0.heap.size) :
    Calls Tryd.prog 51 #[.string ⟨#[48]⟩, .int .i64 n] W fun e w' => e = .returned (.string (zeros n.toNat)) ∧ w'.cell? a = some v ∧ Below B W0 w' :=
  (repeat_int n W h0 hk).mono fun e w' ⟨he, h⟩ => by
    have hz : B ≤ W.heap.size := Nat.le_trans hW hb.size
    exact ⟨he, (h.cell (Nat.lt_of_lt_of_le ha hz)).trans hc, hb.trans (h.mono hz)⟩
end Go.Proofs.YtgccppilhbannaaDoor
