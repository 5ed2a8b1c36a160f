/-
  The walk of the reference's Shift.
-/
import Derived.Test.YtgccppilhbannaaDoorRefSum
import Derived.Test.YtgccppilhbannaaDoorShift
namespace Go.Proofs.YtgccppilhbannaaDoor
open Go.RowKit Go.PlainAid

set_option maxRecDepth 100000 in
set_option maxHeartbeats 2000000 in
theorem rShift_yes {neg : Bool} {ds : ByteArray} {k : Nat} {n : Int} (hr : rightB neg ds k = true) (hn1 : -400 ≤ n) (hn2 : n ≤ 400) (w : World) :
    Calls Tryd.prog 40 #[.agg #[.bool neg, .string ds, .int .i64 k], .int .i64 n] w fun e w' => e = .returned (decE (shiftR neg ds k n)) ∧ Below w.heap.size w w' := by
  obtain ⟨a1, a2, a3, a4, _, a6⟩ := of_decide_eq_true hr
  have A6 := Lib.hid a6
  have hmd : ∀ (j : Nat) (sc : Int) (W : World) (v : Value), j ≤ 100000 → Ints W v (rowOf ds j) → Calls Tryd.prog 21 #[.bool neg, v, .int .i64 sc] W fun e w' => e = .returned (decE (madeR neg (dval ds * 10 ^ j) sc)) ∧ Below W.heap.size W w' := fun j sc W v hj hv => by
    have h := rMade_ints neg v (rowOf ds j) sc W (rowOf_lt A6.out _) (by rw [rowOf_length]; omega) hv
    rw [rowval_rowOf] at h
    exact h
  have HMD := Lib.hid hmd
  clear hmd hr a6
  by_cases hle : n ≤ k
  · have hR : shiftR neg ds k n = madeR neg (dval ds) (k - n) := by unfold shiftR; rw [if_neg (by omega)]
    have hmd := fun W v hv => HMD.out 0 ((k : Int) - n) W v (by omega) hv
    rw [Nat.pow_zero, Nat.mul_one, ← hR] at hmd
    have e1 : IntKind.i64.wrap ((k : Int) - n) = (k : Int) - n := IntWalk.i64_in _ (by omega)
    have e0 : ((k : Int) - (k : Int)).toNat = 0 := by omega
    have hrow := fun W => rRow_any neg ds k k W A6.out (by omega) (by omega) (by omega)
    rw [e0] at hrow
    generalize shiftR neg ds k n = R at *
    clear HMD hR e0
    go_enter Tryd.func40, Tryd.ntmps40
    have ka := (Blk.new w #[Value.bool neg, .string ds, .int .i64 k] 23).alloc (.cells #[Value.bool false, .string ⟨#[]⟩, .int .i64 0] 23)
    have kr := Blk.new' (w.alloc (.cells #[Value.bool neg, .string ds, .int .i64 k] 23)) #[Value.bool false, .string ⟨#[]⟩, .int .i64 0] 23 (w.heap.size + 1) (by simp)
    have hBw := ((Below.refl w.heap.size w).alloc (Nat.le_refl _) (.cells #[Value.bool neg, .string ds, .int .i64 k] 23)).alloc (by simp) (.cells #[Value.bool false, .string ⟨#[]⟩, .int .i64 0] 23)
    go_upto_region 2 with fail
    generalize (w.alloc (.cells #[Value.bool neg, .string ds, .int .i64 k] 23)).alloc (.cells #[Value.bool false, .string ⟨#[]⟩, .int .i64 0] 23) = W0 at *
    have hS := Hold2.mk ka kr hBw (Nat.le_refl _)
    go_region_held3 (fun w' => (∀ o, w'.cell? ⟨w.heap.size, o, none⟩ = #[Value.bool neg, Value.string ds, Value.int .i64 k][o]?) ∧ Below w.heap.size w w')
      (first | exact hS.one.drew | exact hS5.one | exact hS6.one | exact ((hS6.one.set (w.heap.size + 1) 0 _ (by omega) (by omega)).set (w.heap.size + 1) 1 _ (by omega) (by omega)).set (w.heap.size + 1) 2 _ (by omega) (by omega))
      (first
        | (go_at_call 20; refine (hold_callE (hrow _) hS.drew).mono ?_; rintro e w5 ⟨v5, rfl, hI5, hS5, hB5⟩)
        | (go_at_call 21; refine (hold_call (hmd _ _ hI5) hS5).mono ?_; rintro e w6 ⟨rfl, hS6⟩; obtain ⟨_, _, q4, f4, _⟩ := id hS6))
    go_wp2
    refine bodyPost_ret (v := decE R) (by simp [results, Tryd.results40, go_sem, q4]) rfl ⟨rfl, ?_⟩
    exact ((hS6.2.2.2.2.1.setCell (p := ⟨w.heap.size + 1, 0, none⟩) (Nat.le_add_right _ _) _).setCell (p := ⟨w.heap.size + 1, 1, none⟩) (Nat.le_add_right _ _) _).setCell (p := ⟨w.heap.size + 1, 2, none⟩) (Nat.le_add_right _ _) _
  · have hR : shiftR neg ds k n = madeR neg (dval ds * 10 ^ (n - k).toNat) 0 := by unfold shiftR; rw [if_pos (by omega)]
    have hmd := fun W v hv => HMD.out (n - k).toNat 0 W v (by omega) hv
    rw [← hR] at hmd
    have hrow := fun W => rRow_any neg ds k n W A6.out (by omega) (by omega) (by omega)
    generalize shiftR neg ds k n = R at *
    clear HMD hR
    go_enter Tryd.func40, Tryd.ntmps40
    have ka := (Blk.new w #[Value.bool neg, .string ds, .int .i64 k] 23).alloc (.cells #[Value.bool false, .string ⟨#[]⟩, .int .i64 0] 23)
    have kr := Blk.new' (w.alloc (.cells #[Value.bool neg, .string ds, .int .i64 k] 23)) #[Value.bool false, .string ⟨#[]⟩, .int .i64 0] 23 (w.heap.size + 1) (by simp)
    have hBw := ((Below.refl w.heap.size w).alloc (Nat.le_refl _) (.cells #[Value.bool neg, .string ds, .int .i64 k] 23)).alloc (by simp) (.cells #[Value.bool false, .string ⟨#[]⟩, .int .i64 0] 23)
    go_upto_region 3 with fail
    generalize (w.alloc (.cells #[Value.bool neg, .string ds, .int .i64 k] 23)).alloc (.cells #[Value.bool false, .string ⟨#[]⟩, .int .i64 0] 23) = W0 at *
    have hS := Hold2.mk ka kr hBw (Nat.le_refl _)
    go_region_held3 (fun w' => (∀ o, w'.cell? ⟨w.heap.size, o, none⟩ = #[Value.bool neg, Value.string ds, Value.int .i64 k][o]?) ∧ Below w.heap.size w w')
      (first | exact hS.one.drew | exact hS5.one | exact hS6.one | exact ((hS6.one.set (w.heap.size + 1) 0 _ (by omega) (by omega)).set (w.heap.size + 1) 1 _ (by omega) (by omega)).set (w.heap.size + 1) 2 _ (by omega) (by omega))
      (first
        | (go_at_call 20; refine (hold_callE (hrow _) hS.drew).mono ?_; rintro e w5 ⟨v5, rfl, hI5, hS5, hB5⟩)
        | (go_at_call 21; refine (hold_call (hmd _ _ hI5) hS5).mono ?_; rintro e w6 ⟨rfl, hS6⟩; obtain ⟨_, _, q4, f4, _⟩ := id hS6))
    go_wp2
    refine bodyPost_ret (v := decE R) (by simp [results, Tryd.results40, go_sem, q4]) rfl ⟨rfl, ?_⟩
    exact ((hS6.2.2.2.2.1.setCell (p := ⟨w.heap.size + 1, 0, none⟩) (Nat.le_add_right _ _) _).setCell (p := ⟨w.heap.size + 1, 1, none⟩) (Nat.le_add_right _ _) _).setCell (p := ⟨w.heap.size + 1, 2, none⟩) (Nat.le_add_right _ _) _
end Go.Proofs.YtgccppilhbannaaDoor
