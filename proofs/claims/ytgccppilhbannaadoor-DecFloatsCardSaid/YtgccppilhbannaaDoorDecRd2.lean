/-
  The walk of dec.Pad.
-/
import Derived.Test.YtgccppilhbannaaDoorDecRd
import Derived.Test.YtgccppilhbannaaDoorHold
namespace Go.Proofs.YtgccppilhbannaaDoor
open Go.RowKit Go.PlainAid

set_option maxRecDepth 100000 in
set_option maxHeartbeats 2000000 in
theorem pad_less (neg : Bool) (ds : ByteArray) (k m : Nat) (w : World) (hr : rightB neg ds k = true) (hm : m ≤ 400) (hkm : k < m) :
    Calls Tryd.prog 23 #[.agg #[.bool neg, .string ds, .int .i64 k], .int .i64 m] w fun e w' => e = .returned (decE (madeR neg (dval ds * 10 ^ (m - k)) m)) ∧ Below w.heap.size w w' := by
  have hsc := fun W => scaled_yes (scale := m) hr (by omega) (by omega) W
  obtain ⟨h1, h2, h3, h4, _, hd⟩ := of_decide_eq_true hr
  have hmd : ∀ W, Calls Tryd.prog 49 #[.bool neg, .string (ds ++ zeros (m - k)), .int .i64 m] W fun e w' => e = .returned (decE (madeR neg (dval ds * 10 ^ (m - k)) m)) ∧ Below W.heap.size W w' := fun W => by
    have h := made_any neg (ds ++ zeros (m - k)) m W (behind_dig hd _)
    rw [dval_behind] at h
    exact h
  have hrp := fun W => repeat_int ((m : Int) - k) W (by omega) (by omega)
  rw [show ((m : Int) - (k : Int)).toNat = m - k by omega] at hrp
  have hzs : (9223372036854775807 < ds.size + (zeros (m - k)).size) = False := eq_false (by rw [zeros_size]; omega)
  have e1 : IntKind.i64.wrap ((m : Int) - (k : Int)) = (m : Int) - (k : Int) := IntWalk.i64_in _ (by omega)
  generalize madeR neg (dval ds * 10 ^ (m - k)) m = r at *
  clear hr hd
  go_enter Tryd.func23, Tryd.ntmps23
  go_wp2_with fail
  refine (hsc _).mono ?_
  rintro e w1 ⟨rfl, hB1⟩
  have ka := ((Blk.new w _ _).alloc _).on hB1
  have kb := (Blk.new' (w.alloc _) _ _ (w.heap.size + 1) (by simp)).on hB1
  have hBw1 := (((Below.refl w.heap.size w).alloc (Nat.le_refl _) _).alloc (by simp) _).trans (hB1.mono (by simp; omega))
  have hS := Hold2.mk ka kb hBw1 (Nat.le_refl _)
  have ca := ka.cell
  clear hB1 hsc
  go_upto_region 6 with fail
  clear ca
  generalize w1 = w2 at *
  go_region_held3 (fun w' => (∀ o, w'.cell? ⟨w.heap.size, o, none⟩ = #[Value.bool neg, Value.string ds, Value.int .i64 k][o]?) ∧ Below w.heap.size w w')
    (first | exact hS.one.drew | exact hS3.one | exact hS4.one | exact ((hS4.one.set (w.heap.size + 1) 0 _ (by omega) (by omega)).set (w.heap.size + 1) 1 _ (by omega) (by omega)).set (w.heap.size + 1) 2 _ (by omega) (by omega))
    (first
      | (go_at_call 51; refine (hold_call (hrp _) hS.drew).mono ?_; rintro e w3 ⟨rfl, hS3⟩)
      | (go_at_call 49; refine (hold_call (hmd _) hS3).mono ?_; rintro e w4 ⟨rfl, hS4⟩; obtain ⟨_, _, q4, f4, _⟩ := id hS4))
  go_wp2
  refine bodyPost_ret (v := decE r) (by simp [results, Tryd.results23, go_sem, q4]) rfl ⟨rfl, ?_⟩
  exact ((hS4.2.2.2.2.1.setCell (p := ⟨w.heap.size + 1, 0, none⟩) (Nat.le_succ _) _).setCell (p := ⟨w.heap.size + 1, 1, none⟩) (Nat.le_succ _) _).setCell (p := ⟨w.heap.size + 1, 2, none⟩) (Nat.le_succ _) _

set_option maxRecDepth 100000 in
set_option maxHeartbeats 2000000 in
theorem pad_same (neg : Bool) (ds : ByteArray) (k m : Nat) (w : World) (hr : rightB neg ds k = true) (hm : m ≤ 400) (hkm : m ≤ k) :
    Calls Tryd.prog 23 #[.agg #[.bool neg, .string ds, .int .i64 k], .int .i64 m] w fun e w' => e = .returned (decE (neg, ds, k, 0)) ∧ Below w.heap.size w w' := by
  have hsc := fun W => scaled_yes (scale := m) hr (by omega) (by omega) W
  clear hr
  go_enter Tryd.func23, Tryd.ntmps23
  go_wp2_with fail
  refine (hsc _).mono ?_
  rintro e w1 ⟨rfl, hB1⟩
  have ka := ((Blk.new w _ _).alloc _).on hB1
  have kb := (Blk.new' (w.alloc _) _ _ (w.heap.size + 1) (by simp)).on hB1
  have hBw1 := (((Below.refl w.heap.size w).alloc (Nat.le_refl _) _).alloc (by simp) _).trans (hB1.mono (by simp; omega))
  have ca := ka.cell
  have cb := kb.cell
  have fb := kb.free
  clear hB1 hsc
  go_wp2_with fail
  refine bodyPost_ret (v := decE (neg, ds, k, 0)) (by simp [results, Tryd.results23, go_sem, cb]) rfl ⟨rfl, ?_⟩
  exact ((hBw1.setCell (p := ⟨w.heap.size + 1, 0, none⟩) (Nat.le_succ _) _).setCell (p := ⟨w.heap.size + 1, 1, none⟩) (Nat.le_succ _) _).setCell (p := ⟨w.heap.size + 1, 2, none⟩) (Nat.le_succ _) _
/-- Nothing, and that an argument may not be. -/
abbrev noneE : Value := decE (false, ⟨#[]⟩, 0, 2)
set_option maxRecDepth 100000 in
set_option maxHeartbeats 2000000 in
theorem pad_no (neg : Bool) (ds : ByteArray) (sc scale : Int) (w : World) (h : rightB neg ds sc = false ∨ scale < 0 ∨ 400 < scale) :
    Calls Tryd.prog 23 #[.agg #[.bool neg, .string ds, .int .i64 sc], .int .i64 scale] w fun e w' => e = .returned noneE ∧ Below w.heap.size w w' := by
  have hsc := fun W => scaled_no h W
  clear h
  go_enter Tryd.func23, Tryd.ntmps23
  go_wp2_with fail
  refine (hsc _).mono ?_
  rintro e w1 ⟨rfl, hB1⟩
  have kb := (Blk.new' (w.alloc _) _ _ (w.heap.size + 1) (by simp)).on hB1
  have hBw1 := (((Below.refl w.heap.size w).alloc (Nat.le_refl _) _).alloc (by simp) _).trans (hB1.mono (by simp; omega))
  have cb := kb.cell
  have fb := kb.free
  clear hB1 hsc
  go_wp2_with fail
  refine bodyPost_ret (v := noneE) (by simp [results, Tryd.results23, go_sem, cb]) rfl ⟨rfl, ?_⟩
  exact ((hBw1.setCell (p := ⟨w.heap.size + 1, 0, none⟩) (Nat.le_succ _) _).setCell (p := ⟨w.heap.size + 1, 1, none⟩) (Nat.le_succ _) _).setCell (p := ⟨w.heap.size + 1, 2, none⟩) (Nat.le_succ _) _

/-- A decimal's digits without the last one, if there are several. -/
def cutZ (ds : ByteArray) : ByteArray := if 1 < ds.size then ds.extract 0 (ds.size - 1) else ds
/-- Noughts taken off the end, at most so many. -/
def trimF : Nat → ByteArray → ByteArray
  | 0, ds => ds
  | f + 1, ds => if bt ds (ds.size - 1) = 48 then trimF f (cutZ ds) else ds
def trimK : Nat → ByteArray → Nat
  | 0, _ => 0
  | f + 1, ds => if bt ds (ds.size - 1) = 48 then 1 + trimK f (cutZ ds) else 0
theorem trimK_le : ∀ f ds, trimK f ds ≤ f
  | 0, _ => Nat.le_refl _
  | f + 1, ds => by
    have := trimK_le f (cutZ ds)
    simp only [trimK]
    split <;> omega
theorem cutZ_size (ds : ByteArray) (h : 1 ≤ ds.size) : 1 ≤ (cutZ ds).size ∧ (cutZ ds).size ≤ ds.size := by
  unfold cutZ
  split
  · rw [size_sub _ _ _ (by omega)]; omega
  · omega

set_option maxRecDepth 100000 in
set_option maxHeartbeats 4000000 in
theorem trim_yes (neg : Bool) (ds : ByteArray) (k m : Nat) (w : World) (hr : rightB neg ds k = true) (hm : m ≤ 400) :
    Calls Tryd.prog 24 #[.agg #[.bool neg, .string ds, .int .i64 k], .int .i64 m] w fun e w' => e = .returned (decE (neg, trimF (k - m) ds, (k : Int) - trimK (k - m) ds, 0)) ∧ Below w.heap.size w w' := by
  have hsc := fun W => scaled_yes (scale := m) hr (by omega) (by omega) W
  obtain ⟨h1, h2, h3, h4, _, hd⟩ := of_decide_eq_true hr
  clear hr hd
  go_enter Tryd.func24, Tryd.ntmps24
  go_wp2_with fail
  refine (hsc _).mono ?_
  rintro e w1 ⟨rfl, hB1⟩
  have ka := ((Blk.new w _ _).alloc _).on hB1
  have kb := (Blk.new' (w.alloc _) _ _ (w.heap.size + 1) (by simp)).on hB1
  have hBw1 := (((Below.refl w.heap.size w).alloc (Nat.le_refl _) _).alloc (by simp) _).trans (hB1.mono (by simp; omega))
  clear hB1 hsc
  go_wp2_with fail
  go_loopg [] k (fun j wr => j ≤ k ∧ (m ≤ j ∨ j = k) ∧ ∃ s : ByteArray, 1 ≤ s.size ∧ s.size ≤ 400 ∧ Blk wr w.heap.size #[Value.bool neg, .string s, .int .i64 j] ∧ Blk wr (w.heap.size + 1) #[Value.bool false, .string ⟨#[]⟩, .int .i64 0] ∧ Below w.heap.size w wr ∧ trimF (k - m) ds = trimF (j - m) s ∧ trimK (k - m) ds + j = k + trimK (j - m) s)
  case atStart => exact ⟨Nat.le_refl _, .inr rfl, ds, h1, h2, ka, kb, hBw1, rfl, by omega⟩
  case round =>
    obtain ⟨hj, hjm, s, hs1, hs2, kar, kbr, hB, hF, hK⟩ := hrel
    have HF := Lib.hid hF; have HK := Lib.hid hK
    clear hF hK
    have hb := get_bt s
    have ca := kar.cell
    have fa := kar.free
    by_cases hgo : m < gk ∧ bt s (s.size - 1) = 48
    · obtain ⟨hmg, h48⟩ := hgo
      have hF2 : trimF (gk - m) s = trimF (gk - 1 - m) (cutZ s) := by
        rw [show gk - m = (gk - 1 - m) + 1 by omega]
        show (if bt s (s.size - 1) = 48 then _ else _) = _
        rw [if_pos h48]
      have hK2 : trimK (gk - m) s = 1 + trimK (gk - 1 - m) (cutZ s) := by
        rw [show gk - m = (gk - 1 - m) + 1 by omega]
        show (if bt s (s.size - 1) = 48 then _ else _) = _
        rw [if_pos h48]
      have hx : (bt s (s.size - 1) == 48) = true := by simpa using h48
      have HF2 := Lib.hid hF2; have HK2 := Lib.hid hK2
      clear h48 hF2 hK2
      by_cases hlen : 1 < s.size
      · have HZ := Lib.hid (show cutZ s = s.extract 0 (s.size - 1) from if_pos hlen)
        have hz := cutZ_size s hs1
        go_wp2_with fail
        go_roundg (gk - 1)
        case rel =>
          refine ⟨by omega, .inl (by omega), cutZ s, hz.1, by omega, ?_, (kbr.other _ _ _ (by omega)).other _ _ _ (by omega), (hB.setCell (Nat.le_refl _) _).setCell (Nat.le_refl _) _, by rw [HF.out, HF2.out], by have := HK.out; have := HK2.out; omega⟩
          have h := (kar.set 2 (.int .i64 ((gk : Int) - 1))).set 1 (.string (s.extract 0 (s.size - 1)))
          rw [HZ.out, show ((gk - 1 : Nat) : Int) = (gk : Int) - 1 by omega]
          exact h
        case measure => omega
      · have hlen1 : s.size = 1 := by omega
        have HZ := Lib.hid (show cutZ s = s from if_neg hlen)
        have HL1 := Lib.hid hlen1
        clear hlen1
        go_wp2_with fail
        go_roundg (gk - 1)
        case rel =>
          refine ⟨by omega, .inl (by omega), s, hs1, hs2, ?_, kbr.other _ _ _ (by omega), hB.setCell (Nat.le_refl _) _, by rw [HF.out, HF2.out, HZ.out], by have := HK.out; have := HK2.out; rw [HZ.out] at this; omega⟩
          have h := kar.set 2 (.int .i64 ((gk : Int) - 1))
          rw [show ((gk - 1 : Nat) : Int) = (gk : Int) - 1 by omega]
          exact h
        case measure => omega
    · have hR : trimF (k - m) ds = s ∧ trimK (k - m) ds + gk = k := by
        have hF := HF.out
        have hK := HK.out
        have h0 : trimF (gk - m) s = s ∧ trimK (gk - m) s = 0 := by
          by_cases h : m < gk
          · have h48 : ¬ bt s (s.size - 1) = 48 := fun e => hgo ⟨h, e⟩
            rw [show gk - m = (gk - 1 - m) + 1 by omega]
            exact ⟨if_neg h48, if_neg h48⟩
          · rw [show gk - m = 0 by omega]
            exact ⟨rfl, rfl⟩
        rw [h0.1] at hF
        rw [h0.2] at hK
        exact ⟨hF, hK⟩
      have HR1 := Lib.hid hR.1
      have HR2 := Lib.hid (show (k : Int) - (trimK (k - m) ds : Nat) = gk by have := hR.2; omega)
      clear hR
      have cb := kbr.cell
      have fb := kbr.free
      have hdis : ¬ m < gk ∨ (m < gk ∧ (bt s (s.size - 1) == 48) = false) := by
        by_cases h : m < gk
        · exact .inr ⟨h, by simpa using fun e => hgo ⟨h, e⟩⟩
        · exact .inl h
      clear hgo
      rcases hdis with h | ⟨h, hx⟩
      all_goals
        go_wp2_with fail
        refine bodyPost_ret (v := decE (neg, s, gk, 0)) (by simp [results, Tryd.results24, go_sem, cb]) rfl ⟨ret_val (by rw [HR1.out, HR2.out]), ?_⟩
        exact ((hB.setCell (p := ⟨w.heap.size + 1, 0, none⟩) (Nat.le_succ _) _).setCell (p := ⟨w.heap.size + 1, 1, none⟩) (Nat.le_succ _) _).setCell (p := ⟨w.heap.size + 1, 2, none⟩) (Nat.le_succ _) _
set_option maxRecDepth 100000 in
set_option maxHeartbeats 2000000 in
theorem trim_no (neg : Bool) (ds : ByteArray) (sc scale : Int) (w : World) (h : rightB neg ds sc = false ∨ scale < 0 ∨ 400 < scale) :
    Calls Tryd.prog 24 #[.agg #[.bool neg, .string ds, .int .i64 sc], .int .i64 scale] w fun e w' => e = .returned noneE ∧ Below w.heap.size w w' := by
  have hsc := fun W => scaled_no h W
  clear h
  go_enter Tryd.func24, Tryd.ntmps24
  go_wp2_with fail
  refine (hsc _).mono ?_
  rintro e w1 ⟨rfl, hB1⟩
  have kb := (Blk.new' (w.alloc _) _ _ (w.heap.size + 1) (by simp)).on hB1
  have hBw1 := (((Below.refl w.heap.size w).alloc (Nat.le_refl _) _).alloc (by simp) _).trans (hB1.mono (by simp; omega))
  have cb := kb.cell
  have fb := kb.free
  clear hB1 hsc
  go_wp2_with fail
  refine bodyPost_ret (v := noneE) (by simp [results, Tryd.results24, go_sem, cb]) rfl ⟨rfl, ?_⟩
  exact ((hBw1.setCell (p := ⟨w.heap.size + 1, 0, none⟩) (Nat.le_succ _) _).setCell (p := ⟨w.heap.size + 1, 1, none⟩) (Nat.le_succ _) _).setCell (p := ⟨w.heap.size + 1, 2, none⟩) (Nat.le_succ _) _

end Go.Proofs.YtgccppilhbannaaDoor
