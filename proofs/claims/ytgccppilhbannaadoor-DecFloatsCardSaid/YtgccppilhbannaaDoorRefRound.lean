/-
  The walk of the reference's Round.
-/
import Derived.Test.YtgccppilhbannaaDoorRowW
import Derived.Test.YtgccppilhbannaaDoorDecUp
namespace Go.Proofs.YtgccppilhbannaaDoor
open Go.RowKit Go.PlainAid

/-- The digits of a row up to a place. -/
def lowTo (l : List Nat) (c : Nat) : List Nat := (List.range c).map fun i => l.getD i 0
theorem lowTo_length (l : List Nat) (c : Nat) : (lowTo l c).length = c := by simp [lowTo]
theorem lowTo_succ (l : List Nat) (c : Nat) : lowTo l (c + 1) = lowTo l c ++ [l.getD c 0] := by simp [lowTo, List.range_succ]
theorem rowval_lowTo (l : List Nat) : ∀ c, rowval (lowTo l c) = rowval (l.take c)
  | 0 => by simp [lowTo, rowval]
  | c + 1 => by
    rw [lowTo_succ, rowval_append, lowTo_length, rowval_take_succ, rowval_lowTo l c]
    simp [rowval]
theorem lowTo_lt {l : List Nat} (h : ∀ d ∈ l, d < 10) (c : Nat) : ∀ d ∈ lowTo l c, d < 10 := fun d hd => by
  obtain ⟨i, _, rfl⟩ := List.mem_map.1 hd
  exact getD_lt h i
/-- The row of a half. -/
def halfL (c : Nat) : List Nat := List.replicate (c - 1) 0 ++ [5]
theorem halfL_length (c : Nat) (h : 1 ≤ c) : (halfL c).length = c := by simp [halfL]; omega
theorem rowval_half (c : Nat) : rowval (halfL c) = 5 * 10 ^ (c - 1) := by
  unfold halfL
  rw [rowval_append, rowval_zeros, List.length_replicate]
  simp [rowval]
  omega
/-- A row that is rounded. -/
def roundL (neg : Bool) (l : List Nat) (c : Nat) (mode : Int) : List Nat :=
  if upB neg (decide ((l.drop c).getD 0 0 % 2 = 1)) (rowval (l.take c)) c mode = true then plusL (l.drop c) [1] else l.drop c
theorem head_odd {l : List Nat} : l.getD 0 0 % 2 = rowval l % 2 := by
  cases l with
  | nil => rfl
  | cons d l => simp [rowval]; omega
theorem roundL_val {neg : Bool} {l : List Nat} {c : Nat} {mode : Int} (h : ∀ d ∈ l, d < 10) : rowval (roundL neg l c mode) = rowval (l.drop c) + if upB neg (decide (rowval (l.drop c) % 2 = 1)) (rowval (l.take c)) c mode = true then 1 else 0 := by
  unfold roundL
  rw [head_odd]
  split
  · rw [plusL_val (fun d hd => h d (List.mem_of_mem_drop hd)) (by simp)]
    simp [rowval]
  · rfl
theorem roundL_lt {neg : Bool} {l : List Nat} {c : Nat} {mode : Int} (h : ∀ d ∈ l, d < 10) : ∀ d ∈ roundL neg l c mode, d < 10 := by
  unfold roundL
  split
  · exact plusL_lt _ _
  · exact fun d hd => h d (List.mem_of_mem_drop hd)
theorem roundL_length (neg : Bool) (l : List Nat) (c : Nat) (mode : Int) : (roundL neg l c mode).length ≤ max l.length 1 + 1 := by
  unfold roundL
  split
  · refine Nat.le_trans (plusL_length _ _) ?_
    simp
    omega
  · simp
    omega

set_option maxRecDepth 100000 in
set_option maxHeartbeats 4000000 in
theorem rRound_any (neg : Bool) (v : Value) (l : List Nat) (c : Nat) (mode : Int) (w : World) (hv : Ints w v l) (h10 : ∀ d ∈ l, d < 10) (hl : l.length ≤ 100000) (hc1 : 1 ≤ c) (hc2 : c ≤ 100000) :
    Calls Tryd.prog 26 #[.bool neg, v, .int .i64 c, .int .i64 mode] w fun e w' => ∃ v', e = .returned v' ∧ IntRow w.heap.size w' v' (roundL neg l c mode) ∧ Below w.heap.size w w' := by
  have hat : ∀ (W : World) (m : Nat), Below w.heap.size w W → m ≤ 1000000000 → Calls Tryd.prog 57 #[v, .int .i64 m] W fun e w' => e = .returned (.int .i64 ((l.getD m 0 : Nat) : Int)) ∧ W = w' := fun W m h hm => rAt_any v l m W (hv.later h (Nat.le_refl _)) (by omega) hm
  have hcell : ∀ m (hm : m < l.length), ∃ g o cap, v = .slice (some ⟨g, o, none⟩) l.length cap ∧ g < w.heap.size ∧ l.length ≤ cap ∧ w.cell? ⟨g, o + m, none⟩ = some (.int .i64 ((l.getD m 0 : Nat) : Int)) := fun m hm => by
    rcases hv with ⟨rfl, _⟩ | ⟨g, o, cap, hv, hg, hc, hmx, hcell⟩
    · simp at hm
    · refine ⟨g, o, cap, hv, hg, hc, ?_⟩
      rw [hcell m hm, List.getD_eq_getElem?_getD, List.getElem?_eq_getElem hm]
      rfl
  obtain ⟨aa, ac, hfa⟩ := hv.form _ rfl
  subst hfa
  have HAT := Lib.hid hat; have HCELL := Lib.hid hcell; have H10 := Lib.hid h10
  have HD10 := Lib.hid (getD_lt h10)
  clear hat hcell hv h10
  go_enter Tryd.func26, Tryd.ntmps26
  go_wp2_with fail
  go_loopw [9, 11] (fun v i wr => ∃ m : Nat, m ≤ c ∧ i = .int .i64 m ∧ IntRow w.heap.size wr v (lowTo l m) ∧ Below w.heap.size w wr) (fun _ i _ => c - (intOf i).toNat)
  case atStart => exact ⟨0, Nat.zero_le _, rfl, IntRow.nil _ _, Below.refl _ _⟩
  case round =>
    obtain ⟨m, hm, rfl, hlow, hB⟩ := hrel
    have hsz := hB.size
    by_cases hgo : m < c
    · have A1 := HAT.out wr m hB (by omega)
      have hlen : (lowTo l m).length ≤ 100001 := by rw [lowTo_length]; omega
      have HST := Lib.hid (lowTo_succ l m)
      generalize l.getD m 0 = d at *
      go_wp2_with (first
        | (go_at_call 57; (with_reducible refine A1.mono ?_); rintro e w' ⟨rfl, rfl⟩)
        | (at_builtin; refine wpList_snoc_int rfl _ _ rfl _ _ _ d rfl hlow rfl rfl (by omega) hB (Nat.le_refl _) (Nat.le_refl _) (by omega) ?_; intro v' w2 hrow2 hB2))
      go_roundw
      case rel => exact ⟨m + 1, by omega, by go_num, by rw [HST.out]; exact hrow2, hB2⟩
      case measure => simp [intOf]; omega
    · obtain rfl : m = c := by omega
      go_wp2_with fail
      obtain ⟨wo, rfl⟩ : ∃ wo : World, wo = wr := ⟨_, rfl⟩
      go_loopw [10, 12] (fun v i wr => ∃ j : Nat, m ≤ j ∧ (j ≤ l.length ∨ j = m) ∧ i = .int .i64 j ∧ IntRow wo.heap.size wr v ((l.drop m).take (j - m)) ∧ Below wo.heap.size wo wr) (fun _ i _ => l.length - (intOf i).toNat)
      case atStart => exact ⟨m, Nat.le_refl _, .inr rfl, rfl, by rw [Nat.sub_self]; exact IntRow.nil _ _, Below.refl _ _⟩
      case round =>
        obtain ⟨j, hj1, hj2, rfl, hhigh, hB2⟩ := hrel
        have hsz2 := hB2.size
        by_cases hgo2 : j < l.length
        · obtain ⟨g, o, cap, hv, hg, hcap, hcl⟩ := HCELL.out j hgo2
          obtain ⟨rfl, _, rfl⟩ : aa = some ⟨g, o, none⟩ ∧ l.length = l.length ∧ ac = cap := by simpa using hv
          have hcl := ((hB.trans (hB2.mono hB.size)).cell (p := ⟨g, o + j, none⟩) hg).trans hcl
          have hlen : ((l.drop m).take (j - m)).length ≤ 100001 := by simp; omega
          have HST := Lib.hid (show (l.drop m).take (j + 1 - m) = (l.drop m).take (j - m) ++ [l.getD j 0] by
            rw [show j + 1 - m = (j - m) + 1 by omega, List.take_succ_eq_append_getElem (by simp; omega)]
            congr 2
            rw [List.getElem_drop, List.getD_eq_getElem?_getD, List.getElem?_eq_getElem hgo2]
            simp only [Option.getD_some]
            congr 1
            omega)
          generalize l.getD j 0 = d at *
          clear hv
          go_wp2_with (at_builtin; go_must (refine wpList_snoc_int rfl _ _ rfl _ _ _ d rfl hhigh rfl rfl (by omega) hB2 (Nat.le_refl _) (Nat.le_refl _) (by omega) ?_); intro v' w2 hrow2 hB3)
          go_roundw
          case rel => exact ⟨j + 1, by omega, .inl (by omega), by go_num, by rw [HST.out]; exact hrow2, hB3⟩
          case measure => simp [intOf]; omega
        · have hh : (l.drop m).take (j - m) = l.drop m := List.take_of_length_le (by simp; omega)
          rw [hh] at hhigh
          clear hh
          have hmk : ∀ W : World, (Instr.makeSlice 40 (.int .i64 m) (.int .i64 m)).run Tryd.prog W = .ok (.slice (some ⟨W.heap.size, 0, none⟩) m m) (W.alloc (.cells (madeCells #[.int .i64 0] m) 3)) := fun W => run_make_row' (P := Tryd.prog) 40 3 (.int .i64 0) 8 Tryd.underlying40 infoInt rfl .i64 .i64 m (by omega) (by omega) W
          have hmc : (madeCells #[Value.int .i64 0] m)[m - 1]? = some (.int .i64 0) := by
            rw [← Array.getElem?_toList, toList_madeCells_one, List.getElem?_replicate, if_pos (by omega)]
          have i1 : IntKind.i64.wrap ((m : Int) - 1) = (m : Int) - 1 := IntWalk.i64_in _ (by omega)
          go_wp2_with fail
          clear i1
          have hhalf : Ints (wr.alloc (.cells ((madeCells #[Value.int .i64 0] m).setIfInBounds (m - 1) (.int .i64 5)) 3)) (.slice (some ⟨wr.heap.size, 0, none⟩) m m) (halfL m) := by
            refine .inr ⟨wr.heap.size, 0, m, by rw [halfL_length m hc1], by simp, by rw [halfL_length m hc1]; exact Nat.le_refl _, by unfold maxLen; omega, fun i hi => ?_⟩
            rw [halfL_length m hc1] at hi
            rw [Nat.zero_add, World.cell?_alloc_mark, Array.getElem?_setIfInBounds]
            by_cases e : m - 1 = i
            · subst e
              rw [if_pos rfl, if_pos (by rw [← Array.length_toList, toList_madeCells_one, List.length_replicate]; omega)]
              simp only [halfL]
              rw [List.getElem_append_right (by simp)]
              simp
            · rw [if_neg e, ← Array.getElem?_toList, toList_madeCells_one, List.getElem?_replicate, if_pos hi]
              simp only [halfL]
              rw [List.getElem_append_left (by simp; omega)]
              simp
          have hB5 : Below wr.heap.size wr (wr.alloc (.cells ((madeCells #[Value.int .i64 0] m).setIfInBounds (m - 1) (.int .i64 5)) 3)) := (Below.refl _ _).alloc (Nat.le_refl _) _
          clear hmc hmk
          generalize wr.alloc (.cells ((madeCells #[Value.int .i64 0] m).setIfInBounds (m - 1) (.int .i64 5)) 3) = W5 at *
          have hlo5 : Ints W5 u9 (lowTo l m) := (hlow.ints.later hB2 (Nat.le_refl _)).later hB5 (Nat.le_refl _)
          have hhi5 : Ints W5 u10 (l.drop m) := hhigh.ints.later hB5 (Nat.le_refl _)
          have hBW5 : Below w.heap.size w W5 := hB.trans ((hB2.trans (hB5.mono hsz2)).mono hsz)
          have hhw : IntRow w.heap.size W5 u10 (l.drop m) := (hhigh.later hB5).base hsz
          have hlt : ∀ d ∈ lowTo l m, d < 10 := lowTo_lt H10.out m
          have hht : ∀ d ∈ l.drop m, d < 10 := fun d hd => H10.out d (List.mem_of_mem_drop hd)
          have hft : ∀ d ∈ halfL m, d < 10 := fun d hd => by
            rcases List.mem_append.1 hd with h | h
            · rw [(List.mem_replicate.1 h).2]; decide
            · simp at h; omega
          have L0 := rLess_any (.slice none 0 0) u9 [] (lowTo l m) W5 (.inl ⟨rfl, _, _, rfl⟩) hlo5 (by simp) hlt (by simp) (by rw [lowTo_length]; omega)
          have L1 := rLess_any _ u9 (halfL m) (lowTo l m) W5 hhalf hlo5 hft hlt (by rw [halfL_length m hc1]; omega) (by rw [lowTo_length]; omega)
          have L2 := rLess_any u9 _ (lowTo l m) (halfL m) W5 hlo5 hhalf hlt hft (by rw [lowTo_length]; omega) (by rw [halfL_length m hc1]; omega)
          have A0 := rAt_any u10 (l.drop m) 0 W5 hhi5 (by simp; omega) (by omega)
          have P1 : ∀ W, Below W5.heap.size W5 W → ∀ g, Ints W (.slice (some ⟨g, 0, none⟩) 1 1) [1] → Calls Tryd.prog 59 #[u10, .slice (some ⟨g, 0, none⟩) 1 1] W fun e w' => ∃ v, e = .returned v ∧ IntRow W.heap.size w' v (plusL (l.drop m) [1]) ∧ Below W.heap.size W w' := fun W hW g hg => rPlus_any _ _ _ _ W (hhi5.later hW (Nat.le_refl _)) hg hht (by simp) (by simp; omega) (by simp)
          have e0 : lessB [] (lowTo l m) = decide (rowval (l.take m) ≠ 0) := by
            unfold lessB
            rw [rowval_lowTo, decide_eq_decide]
            show 0 < _ ↔ _
            omega
          have e1 : lessB (halfL m) (lowTo l m) = decide (5 * 10 ^ (m - 1) < rowval (l.take m)) := by unfold lessB; rw [rowval_lowTo, rowval_half]
          have e2 : lessB (lowTo l m) (halfL m) = decide (rowval (l.take m) < 5 * 10 ^ (m - 1)) := by unfold lessB; rw [rowval_lowTo, rowval_half]
          rw [e0] at L0; rw [e1] at L1; rw [e2] at L2
          have hod : (((l.drop m).getD 0 0 : Nat) : Int) % 2 = 1 ↔ (l.drop m).getD 0 0 % 2 = 1 := by omega
          have hode : ((((l.drop m).getD 0 0 : Nat) : Int) % 2 == 1) = decide ((l.drop m).getD 0 0 % 2 = 1) := by rw [Bool.eq_iff_iff, beq_iff_eq, decide_eq_true_eq]; exact hod
          clear e0 e1 e2 hod hlow hhigh hhalf hlo5 hhi5 hlt hht hft hB hB2 hB5 hsz hsz2 hc2 hgo hgo2 hj1 hj2 HAT HCELL
          obtain ⟨h, hh⟩ : ∃ h, (l.drop m).getD 0 0 = h := ⟨_, rfl⟩
          obtain ⟨R, hRe⟩ : ∃ R, rowval (l.take m) = R := ⟨_, rfl⟩
          obtain ⟨H, hHe⟩ : ∃ H, 5 * 10 ^ (m - 1) = H := ⟨_, rfl⟩
          rw [hh] at A0 hode
          rw [hRe] at L0 L1 L2
          rw [hHe] at L1 L2
          obtain ⟨od, hode2⟩ : ∃ od, decide (h % 2 = 1) = od := ⟨_, rfl⟩
          rw [hode2] at hode
          have hupd : upB neg (decide ((l.drop m).getD 0 0 % 2 = 1)) (rowval (l.take m)) m mode = if mode = 1 then decide (H < R) || (decide (R = H) && od) else if mode = 2 then decide (H ≤ R) else if mode = 4 then decide (R ≠ 0) else if mode = 5 then decide (R ≠ 0) && neg else if mode = 6 then decide (R ≠ 0) && !neg else false := by
            rw [hh, hode2, hRe]
            unfold upB
            rw [hHe]
          have HU := Lib.hid hupd
          clear hupd hh hRe hHe hode2
          have HRt : upB neg (decide ((l.drop m).getD 0 0 % 2 = 1)) (rowval (l.take m)) m mode = true → roundL neg l m mode = plusL (l.drop m) [1] := fun h => if_pos h
          have HRf : upB neg (decide ((l.drop m).getD 0 0 % 2 = 1)) (rowval (l.take m)) m mode = false → roundL neg l m mode = l.drop m := fun h => if_neg (by rw [h]; exact Bool.false_ne_true)
          have HRT := Lib.hid HRt; have HRF := Lib.hid HRf
          clear HRt HRf
          refine L0.mono ?_
          rintro e w' ⟨rfl, rfl⟩
          go_wp2_with fail
          refine A0.mono ?_
          rintro e w' ⟨rfl, rfl⟩
          clear L0 A0
          have hcc : H < R ∨ R = H ∨ R < H := by omega
          by_cases m1 : mode = 1
          · subst m1
            rcases hcc with g | g | g
            · rw [decide_eq_true g] at L1
              have HV := Lib.hid (HU.out.trans (show _ = true by rw [if_pos rfl, decide_eq_true g]; rfl))
              clear HU
              go_wp2_with fail
              refine L1.mono ?_
              rintro e w' ⟨rfl, rfl⟩
              go_wp2_with fail
              refine (P1 _ ((Below.refl _ _).alloc (Nat.le_refl _) _) _ (IntRow.lit W5 1).ints).mono ?_
              rintro e w6 ⟨v', rfl, hr6, hB6⟩
              have hBz := (hBW5.alloc hBW5.size _).trans (hB6.mono (by have := hBW5.size; simp; omega))
              have hr7 := hr6.base (base' := w.heap.size) (by have := hBW5.size; simp; omega)
              rw [← HRT.out HV.out] at hr7
              go_wp2_with fail
              go_ret
              exact ⟨v', rfl, hr7, hBz⟩
            · rw [decide_eq_false (show ¬ H < R by omega)] at L1
              rw [decide_eq_false (show ¬ R < H by omega)] at L2
              cases od
              · have g1 := g
                have HV := Lib.hid (HU.out.trans (show _ = false by rw [if_pos rfl, decide_eq_false (show ¬ H < R by omega)]; simp))
                clear HU
                go_wp2_with fail
                refine L1.mono ?_
                rintro e w' ⟨rfl, rfl⟩
                go_wp2_with fail
                refine L2.mono ?_
                rintro e w' ⟨rfl, rfl⟩
                rw [← HRF.out HV.out] at hhw
                go_wp2_with fail
                go_ret
                exact ⟨_, rfl, hhw, hBW5⟩
              · have g1 := g
                have HV := Lib.hid (HU.out.trans (show _ = true by rw [if_pos rfl, decide_eq_false (show ¬ H < R by omega), decide_eq_true g]; rfl))
                clear HU
                go_wp2_with fail
                refine L1.mono ?_
                rintro e w' ⟨rfl, rfl⟩
                go_wp2_with fail
                refine L2.mono ?_
                rintro e w' ⟨rfl, rfl⟩
                go_wp2_with fail
                refine (P1 _ ((Below.refl _ _).alloc (Nat.le_refl _) _) _ (IntRow.lit W5 1).ints).mono ?_
                rintro e w6 ⟨v', rfl, hr6, hB6⟩
                have hBz := (hBW5.alloc hBW5.size _).trans (hB6.mono (by have := hBW5.size; simp; omega))
                have hr7 := hr6.base (base' := w.heap.size) (by have := hBW5.size; simp; omega)
                rw [← HRT.out HV.out] at hr7
                go_wp2_with fail
                go_ret
                exact ⟨v', rfl, hr7, hBz⟩
            · rw [decide_eq_false (show ¬ H < R by omega)] at L1
              rw [decide_eq_true g] at L2
              have HV := Lib.hid (HU.out.trans (show _ = false by rw [if_pos rfl, decide_eq_false (show ¬ H < R by omega), decide_eq_false (show ¬ R = H by omega)]; rfl))
              clear HU
              go_wp2_with fail
              refine L1.mono ?_
              rintro e w' ⟨rfl, rfl⟩
              go_wp2_with fail
              refine L2.mono ?_
              rintro e w' ⟨rfl, rfl⟩
              rw [← HRF.out HV.out] at hhw
              go_wp2_with fail
              go_ret
              exact ⟨_, rfl, hhw, hBW5⟩
          by_cases m2 : mode = 2
          · subst m2
            by_cases g : R < H
            · rw [decide_eq_true g] at L2
              have HV := Lib.hid (HU.out.trans (show _ = false by rw [if_neg (by omega), if_pos rfl, decide_eq_false (show ¬ H ≤ R by omega)]))
              clear HU
              go_wp2_with fail
              refine L2.mono ?_
              rintro e w' ⟨rfl, rfl⟩
              rw [← HRF.out HV.out] at hhw
              go_wp2_with fail
              go_ret
              exact ⟨_, rfl, hhw, hBW5⟩
            · rw [decide_eq_false g] at L2
              have HV := Lib.hid (HU.out.trans (show _ = true by rw [if_neg (by omega), if_pos rfl, decide_eq_true (show H ≤ R by omega)]))
              clear HU
              go_wp2_with fail
              refine L2.mono ?_
              rintro e w' ⟨rfl, rfl⟩
              go_wp2_with fail
              refine (P1 _ ((Below.refl _ _).alloc (Nat.le_refl _) _) _ (IntRow.lit W5 1).ints).mono ?_
              rintro e w6 ⟨v', rfl, hr6, hB6⟩
              have hBz := (hBW5.alloc hBW5.size _).trans (hB6.mono (by have := hBW5.size; simp; omega))
              have hr7 := hr6.base (base' := w.heap.size) (by have := hBW5.size; simp; omega)
              rw [← HRT.out HV.out] at hr7
              go_wp2_with fail
              go_ret
              exact ⟨v', rfl, hr7, hBz⟩
          clear L1 L2 hcc
          by_cases m4 : mode = 4
          · subst m4
            by_cases g : R = 0
            · have gn : ¬ (R ≠ 0) := fun h => h g
              have HV := Lib.hid (HU.out.trans (show _ = false by rw [if_neg (by omega), if_neg (by omega), if_pos rfl, decide_eq_false gn]))
              clear HU
              rw [← HRF.out HV.out] at hhw
              go_wp2_with fail
              go_ret
              exact ⟨_, rfl, hhw, hBW5⟩
            · have gn : R ≠ 0 := g
              have HV := Lib.hid (HU.out.trans (show _ = true by rw [if_neg (by omega), if_neg (by omega), if_pos rfl, decide_eq_true gn]))
              clear HU
              go_wp2_with fail
              refine (P1 _ ((Below.refl _ _).alloc (Nat.le_refl _) _) _ (IntRow.lit W5 1).ints).mono ?_
              rintro e w6 ⟨v', rfl, hr6, hB6⟩
              have hBz := (hBW5.alloc hBW5.size _).trans (hB6.mono (by have := hBW5.size; simp; omega))
              have hr7 := hr6.base (base' := w.heap.size) (by have := hBW5.size; simp; omega)
              rw [← HRT.out HV.out] at hr7
              go_wp2_with fail
              go_ret
              exact ⟨v', rfl, hr7, hBz⟩
          by_cases m5 : mode = 5
          · subst m5
            by_cases g : R = 0
            · have gn : ¬ (R ≠ 0) := fun h => h g
              have HV := Lib.hid (HU.out.trans (show _ = false by rw [if_neg (by omega), if_neg (by omega), if_neg (by omega), if_pos rfl, decide_eq_false gn]; rfl))
              clear HU
              rw [← HRF.out HV.out] at hhw
              go_wp2_with fail
              go_ret
              exact ⟨_, rfl, hhw, hBW5⟩
            · have gn : R ≠ 0 := g
              cases neg
              · have gm := gn
                have HV := Lib.hid (HU.out.trans (show _ = false by rw [if_neg (by omega), if_neg (by omega), if_neg (by omega), if_pos rfl, decide_eq_true gn]; rfl))
                clear HU
                rw [← HRF.out HV.out] at hhw
                go_wp2_with fail
                go_ret
                exact ⟨_, rfl, hhw, hBW5⟩
              · have gm := gn
                have HV := Lib.hid (HU.out.trans (show _ = true by rw [if_neg (by omega), if_neg (by omega), if_neg (by omega), if_pos rfl, decide_eq_true gn]; rfl))
                clear HU
                go_wp2_with fail
                refine (P1 _ ((Below.refl _ _).alloc (Nat.le_refl _) _) _ (IntRow.lit W5 1).ints).mono ?_
                rintro e w6 ⟨v', rfl, hr6, hB6⟩
                have hBz := (hBW5.alloc hBW5.size _).trans (hB6.mono (by have := hBW5.size; simp; omega))
                have hr7 := hr6.base (base' := w.heap.size) (by have := hBW5.size; simp; omega)
                rw [← HRT.out HV.out] at hr7
                go_wp2_with fail
                go_ret
                exact ⟨v', rfl, hr7, hBz⟩
          by_cases m6 : mode = 6
          · subst m6
            by_cases g : R = 0
            · have gn : ¬ (R ≠ 0) := fun h => h g
              have HV := Lib.hid (HU.out.trans (show _ = false by rw [if_neg (by omega), if_neg (by omega), if_neg (by omega), if_neg (by omega), if_pos rfl, decide_eq_false gn]; rfl))
              clear HU
              rw [← HRF.out HV.out] at hhw
              go_wp2_with fail
              go_ret
              exact ⟨_, rfl, hhw, hBW5⟩
            · have gn : R ≠ 0 := g
              cases neg
              · have gm := gn
                have HV := Lib.hid (HU.out.trans (show _ = true by rw [if_neg (by omega), if_neg (by omega), if_neg (by omega), if_neg (by omega), if_pos rfl, decide_eq_true gn]; rfl))
                clear HU
                go_wp2_with fail
                refine (P1 _ ((Below.refl _ _).alloc (Nat.le_refl _) _) _ (IntRow.lit W5 1).ints).mono ?_
                rintro e w6 ⟨v', rfl, hr6, hB6⟩
                have hBz := (hBW5.alloc hBW5.size _).trans (hB6.mono (by have := hBW5.size; simp; omega))
                have hr7 := hr6.base (base' := w.heap.size) (by have := hBW5.size; simp; omega)
                rw [← HRT.out HV.out] at hr7
                go_wp2_with fail
                go_ret
                exact ⟨v', rfl, hr7, hBz⟩
              · have gm := gn
                have HV := Lib.hid (HU.out.trans (show _ = false by rw [if_neg (by omega), if_neg (by omega), if_neg (by omega), if_neg (by omega), if_pos rfl, decide_eq_true gn]; rfl))
                clear HU
                rw [← HRF.out HV.out] at hhw
                go_wp2_with fail
                go_ret
                exact ⟨_, rfl, hhw, hBW5⟩
          have n1 : (mode == 1) = false := by simpa using m1
          have n2 : (mode == 2) = false := by simpa using m2
          have n4 : (mode == 4) = false := by simpa using m4
          have n5 : (mode == 5) = false := by simpa using m5
          have n6 : (mode == 6) = false := by simpa using m6
          have HV := Lib.hid (HU.out.trans (show _ = false by rw [if_neg m1, if_neg m2, if_neg m4, if_neg m5, if_neg m6]))
          clear HU m1 m2 m4 m5 m6
          rw [← HRF.out HV.out] at hhw
          go_wp2_with fail
          go_ret
          exact ⟨_, rfl, hhw, hBW5⟩
end Go.Proofs.YtgccppilhbannaaDoor
