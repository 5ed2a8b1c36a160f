/-
  The walk of dec.Shift.
-/
import Derived.Test.YtgccppilhbannaaDoorAddW
namespace Go.Proofs.YtgccppilhbannaaDoor
open Go.RowKit Go.PlainAid

/-- A decimal times a power of ten. -/
def shiftR (neg : Bool) (ds : ByteArray) (k : Nat) (n : Int) : Bool × ByteArray × Int × Int :=
  if (k : Int) < n then madeR neg (dval ds * 10 ^ (n - k).toNat) 0 else madeR neg (dval ds) (k - n)

set_option maxRecDepth 100000 in
set_option maxHeartbeats 2000000 in
theorem shift_up (neg : Bool) (ds : ByteArray) (k n : Nat) (w : World) (hr : rightB neg ds k = true) (hn : n ≤ 400) (hkn : k < n) :
    Calls Tryd.prog 35 #[.agg #[.bool neg, .string ds, .int .i64 k], .int .i64 n] w fun e w' => e = .returned (decE (madeR neg (dval ds * 10 ^ (n - k)) 0)) ∧ Below w.heap.size w w' := by
  have hsc := fun W => check_yes hr W
  obtain ⟨h1, h2, h3, h4, _, hd⟩ := of_decide_eq_true hr
  have hmd : ∀ W, Calls Tryd.prog 49 #[.bool neg, .string (ds ++ zeros (n - k)), .int .i64 0] W fun e w' => e = .returned (decE (madeR neg (dval ds * 10 ^ (n - k)) 0)) ∧ Below W.heap.size W w' := fun W => by
    have h := made_any neg (ds ++ zeros (n - k)) 0 W (behind_dig hd _)
    rw [dval_behind] at h
    exact h
  have hrp := fun W => repeat_any (n - k) W (by omega)
  have hzs : (9223372036854775807 < ds.size + (zeros (n - k)).size) = False := eq_false (by rw [zeros_size]; omega)
  obtain ⟨r, hrr⟩ : ∃ r, n - k = r := ⟨_, rfl⟩
  have e1 : IntKind.i64.wrap ((n : Int) - (k : Int)) = (r : Int) := by rw [show (n : Int) - (k : Int) = r by omega]; exact IntWalk.i64_in _ (by omega)
  rw [hrr] at hmd hrp hzs ⊢
  generalize madeR neg (dval ds * 10 ^ r) 0 = R at *
  clear hr hd hrr
  go_enter Tryd.func35, Tryd.ntmps35
  go_wp2_with fail
  refine (hsc _).mono ?_
  rintro e w1 ⟨rfl, hB1⟩
  have ka := ((Blk.new w _ _).alloc _).on hB1
  have kb := (Blk.new' (w.alloc _) _ _ (w.heap.size + 1) (by simp)).on hB1
  have hBw1 := (((Below.refl w.heap.size w).alloc (Nat.le_refl _) _).alloc (by simp) _).trans (hB1.mono (by simp; omega))
  have hS := Hold2.mk ka kb hBw1 (Nat.le_refl _)
  have ca := ka.cell
  clear hB1 hsc
  go_upto_region 7 with fail
  clear ca
  generalize w1 = w2 at *
  go_region_held3 (fun w' => (∀ o, w'.cell? ⟨w.heap.size, o, none⟩ = #[Value.bool neg, Value.string ds, Value.int .i64 k][o]?) ∧ Below w.heap.size w w')
    (first | exact hS.one.drew | exact hS3.one | exact hS4.one | exact ((hS4.one.set (w.heap.size + 1) 0 _ (by omega) (by omega)).set (w.heap.size + 1) 1 _ (by omega) (by omega)).set (w.heap.size + 1) 2 _ (by omega) (by omega))
    (first
      | (go_at_call 51; refine (hold_call (hrp _) hS.drew).mono ?_; rintro e w3 ⟨rfl, hS3⟩)
      | (go_at_call 49; refine (hold_call (hmd _) hS3).mono ?_; rintro e w4 ⟨rfl, hS4⟩; obtain ⟨_, _, q4, f4, _⟩ := id hS4))
  go_wp2
  refine bodyPost_ret (v := decE R) (by simp [results, Tryd.results35, go_sem, q4]) rfl ⟨rfl, ?_⟩
  exact ((hS4.2.2.2.2.1.setCell (p := ⟨w.heap.size + 1, 0, none⟩) (Nat.le_succ _) _).setCell (p := ⟨w.heap.size + 1, 1, none⟩) (Nat.le_succ _) _).setCell (p := ⟨w.heap.size + 1, 2, none⟩) (Nat.le_succ _) _

set_option maxRecDepth 100000 in
set_option maxHeartbeats 2000000 in
theorem shift_down (neg : Bool) (ds : ByteArray) (k : Nat) (n : Int) (w : World) (hr : rightB neg ds k = true) (hn : -400 ≤ n) (hn2 : n ≤ 400) (hkn : n ≤ k) :
    Calls Tryd.prog 35 #[.agg #[.bool neg, .string ds, .int .i64 k], .int .i64 n] w fun e w' => e = .returned (decE (madeR neg (dval ds) (k - n))) ∧ Below w.heap.size w w' := by
  have hsc := fun W => check_yes hr W
  obtain ⟨h1, h2, h3, h4, _, hd⟩ := of_decide_eq_true hr
  have hmd := fun W => made_any neg ds ((k : Int) - n) W hd
  have e1 : IntKind.i64.wrap ((k : Int) - n) = (k : Int) - n := IntWalk.i64_in _ (by omega)
  generalize madeR neg (dval ds) ((k : Int) - n) = R at *
  clear hr hd
  go_enter Tryd.func35, Tryd.ntmps35
  go_wp2_with fail
  refine (hsc _).mono ?_
  rintro e w1 ⟨rfl, hB1⟩
  have ka := ((Blk.new w _ _).alloc _).on hB1
  have kb := (Blk.new' (w.alloc _) _ _ (w.heap.size + 1) (by simp)).on hB1
  have hBw := (((Below.refl w.heap.size w).alloc (Nat.le_refl _) _).alloc (by simp) _).trans (hB1.mono (by simp; omega))
  have ca := ka.cell
  clear hB1 hsc
  go_wp2_with fail
  refine (hmd _).mono ?_
  rintro e w2 ⟨rfl, hB2⟩
  have kb := kb.on hB2
  have hBw := hBw.trans (hB2.mono hBw.size)
  have cr := kb.cell
  have fr := kb.free
  clear ca hB2 hmd
  go_wp2_with fail
  refine bodyPost_ret (v := decE R) ?_ rfl ⟨rfl, ?_⟩
  · simp [results, Tryd.results35, go_sem, cr]
  · repeat (refine Below.setCell ?_ (Nat.le_succ _) _)
    exact hBw

set_option maxRecDepth 100000 in
set_option maxHeartbeats 2000000 in
theorem shift_no (neg : Bool) (ds : ByteArray) (k n : Int) (w : World) (h : rightB neg ds k = false ∨ (rightB neg ds k = true ∧ n < -400) ∨ (rightB neg ds k = true ∧ 400 < n)) :
    Calls Tryd.prog 35 #[.agg #[.bool neg, .string ds, .int .i64 k], .int .i64 n] w fun e w' => e = .returned noneE ∧ Below w.heap.size w w' := by
  rcases h with h | ⟨h, hn⟩ | ⟨h, hn⟩
  · have hsc := fun W => check_no h W
    clear h
    go_enter Tryd.func35, Tryd.ntmps35
    go_wp2_with fail
    refine (hsc _).mono ?_
    rintro e w1 ⟨rfl, hB1⟩
    have kb := (Blk.new' (w.alloc _) _ _ (w.heap.size + 1) (by simp)).on hB1
    have hBw := (((Below.refl w.heap.size w).alloc (Nat.le_refl _) _).alloc (by simp) _).trans (hB1.mono (by simp; omega))
    have cr := kb.cell
    have fr := kb.free
    clear hB1 hsc
    go_wp2_with fail
    refine bodyPost_ret (v := noneE) ?_ rfl ⟨rfl, ?_⟩
    · simp [results, Tryd.results35, go_sem, cr]
    · repeat (refine Below.setCell ?_ (Nat.le_succ _) _)
      exact hBw
  all_goals
    have hsc := fun W => check_yes h W
    clear h
    go_enter Tryd.func35, Tryd.ntmps35
    go_wp2_with fail
    refine (hsc _).mono ?_
    rintro e w1 ⟨rfl, hB1⟩
    have kb := (Blk.new' (w.alloc _) _ _ (w.heap.size + 1) (by simp)).on hB1
    have hBw := (((Below.refl w.heap.size w).alloc (Nat.le_refl _) _).alloc (by simp) _).trans (hB1.mono (by simp; omega))
    have cr := kb.cell
    have fr := kb.free
    clear hB1 hsc
    go_wp2_with fail
    refine bodyPost_ret (v := noneE) ?_ rfl ⟨rfl, ?_⟩
    · simp [results, Tryd.results35, go_sem, cr]
    · repeat (refine Below.setCell ?_ (Nat.le_succ _) _)
      exact hBw
end Go.Proofs.YtgccppilhbannaaDoor
