/-
  The walks of the reference's at, Plus, Minus, Less.
-/
import Derived.Test.YtgccppilhbannaaDoorRowP
import Derived.Test.YtgccppilhbannaaDoorDecX
import Derived.Test.YtgccppilhbannaaDoorDecT
import Derived.Deep.QuietTactic
import Derived.BigQuiet
import Derived.Outline
namespace Go.Proofs.YtgccppilhbannaaDoor
open Go.RowKit Go.PlainAid

set_option maxHeartbeats 400000 in
theorem rAt_any (v : Value) (l : List Nat) (j : Nat) (w : World) (hv : Ints w v l) (hl : l.length ≤ 1000000000) (_ : j ≤ 1000000000) :
    Calls Tryd.prog 57 #[v, .int .i64 j] w fun e w' => e = .returned (.int .i64 ((l.getD j 0 : Nat) : Int)) ∧ w = w' := by
  by_cases h : j < l.length
  · rcases hv with ⟨rfl, _⟩ | ⟨g, o, cap, rfl, hg, hc, hm, hcell⟩
    · simp at h
    · have hx := hcell j h
      rw [List.getD_eq_getElem?_getD, List.getElem?_eq_getElem h]
      show Calls _ _ _ _ fun e w' => e = .returned (.int .i64 (l[j] : Int)) ∧ w = w'
      generalize l[j] = d at *
      clear hcell
      go_enter Tryd.func57, Tryd.ntmps57
      go_wp2_with fail
      go_ret
      exact ⟨rfl, rfl⟩
  · obtain ⟨a, cap, rfl⟩ := hv.form _ rfl
    rw [List.getD_eq_getElem?_getD, List.getElem?_eq_none (by omega)]
    clear hv
    go_enter Tryd.func57, Tryd.ntmps57
    go_wp2_with fail
    go_ret
    exact ⟨rfl, rfl⟩

/-- The sum of two rows, as the reference leaves it. -/
def plusL (a b : List Nat) : List Nat := if addC a b (max a.length b.length) = 0 then addL a b (max a.length b.length) else addL a b (max a.length b.length + 1)
theorem plusL_val {a b : List Nat} (ha : ∀ d ∈ a, d < 10) (hb : ∀ d ∈ b, d < 10) : rowval (plusL a b) = rowval a + rowval b := by
  unfold plusL
  split
  · rename_i h
    exact addL_all0 (by omega) (by omega) h
  · exact addL_all0 (by omega) (by omega) (addC_behind ha hb (by omega) (by omega))
theorem plusL_lt (a b : List Nat) : ∀ d ∈ plusL a b, d < 10 := by
  unfold plusL
  split
  · exact addL_lt _ _ _
  · exact addL_lt _ _ _
theorem plusL_length (a b : List Nat) : (plusL a b).length ≤ max a.length b.length + 1 := by
  unfold plusL
  split <;> rw [addL_length] <;> omega

set_option maxRecDepth 100000 in
set_option maxHeartbeats 1000000 in
theorem rPlus_any (va vb : Value) (a b : List Nat) (w : World) (hva : Ints w va a) (hvb : Ints w vb b) (ha : ∀ d ∈ a, d < 10) (hb : ∀ d ∈ b, d < 10) (la : a.length ≤ 1000000) (lb : b.length ≤ 1000000) :
    Calls Tryd.prog 59 #[va, vb] w fun e w' => ∃ v, e = .returned v ∧ IntRow w.heap.size w' v (plusL a b) ∧ Below w.heap.size w w' := by
  obtain ⟨aa, ac, hfa⟩ := hva.form _ rfl
  obtain ⟨ba, bc, hfb⟩ := hvb.form _ rfl
  have hc1 := addC_le ha hb
  have hx := getD_lt ha
  have hy := getD_lt hb
  have HB := Lib.hid (addC_behind ha hb (m := max a.length b.length) (by omega) (by omega))
  have HC := Lib.hid hc1; have HX := Lib.hid hx; have HY := Lib.hid hy
  have hat : ∀ (W : World) (m : Nat), Below w.heap.size w W → m ≤ 1000000000 → Calls Tryd.prog 57 #[va, .int .i64 m] W fun e w' => e = .returned (.int .i64 ((a.getD m 0 : Nat) : Int)) ∧ W = w' := fun W m h hm => rAt_any va a m W (hva.later h (Nat.le_refl _)) (by omega) hm
  have hbt : ∀ (W : World) (m : Nat), Below w.heap.size w W → m ≤ 1000000000 → Calls Tryd.prog 57 #[vb, .int .i64 m] W fun e w' => e = .returned (.int .i64 ((b.getD m 0 : Nat) : Int)) ∧ W = w' := fun W m h hm => rAt_any vb b m W (hvb.later h (Nat.le_refl _)) (by omega) hm
  subst hfa hfb
  have HA := Lib.hid hat; have HBT := Lib.hid hbt
  clear hat hbt hc1 hx hy hva hvb
  go_enter Tryd.func59, Tryd.ntmps59
  go_wp2_with fail
  go_loopw [5, 6, 7] (fun v c i wr => ∃ m : Nat, m ≤ max a.length b.length + 1 ∧ i = .int .i64 m ∧ c = .int .i64 ((addC a b m : Nat) : Int) ∧ IntRow w.heap.size wr v (addL a b m) ∧ Below w.heap.size w wr ∧ (m = max a.length b.length + 1 → addC a b (max a.length b.length) ≠ 0)) (fun _ _ i _ => 1000002 - (intOf i).toNat)
  case atStart => exact ⟨0, Nat.zero_le _, rfl, rfl, IntRow.nil _ _, Below.refl _ _, fun h => by omega⟩
  case round =>
    obtain ⟨m, hm, rfl, rfl, hrow, hB, hend⟩ := hrel
    have hsz := hB.size
    have c1 := HC.out m
    have x1 := HX.out m
    have y1 := HY.out m
    have hlen : (addL a b m).length ≤ 1000001 := by rw [addL_length]; omega
    have hst := addL_succ a b m
    have HD : ((a.getD m 0 + b.getD m 0 + addC a b m : Nat) : Int) % 10 = ((addD a b m : Nat) : Int) ∧ ((a.getD m 0 + b.getD m 0 + addC a b m : Nat) : Int) / 10 = ((addC a b (m + 1) : Nat) : Int) := ⟨by unfold addD; omega, by simp only [addC]; omega⟩
    have A1 := HA.out wr m hB (by omega)
    have B1 := HBT.out wr m hB (by omega)
    have HEND := Lib.hid hend; clear hend
    have HST := Lib.hid hst; clear hst
    by_cases hgo : m < a.length ∨ m < b.length ∨ 0 < addC a b m
    · have hm' : m + 1 ≤ max a.length b.length + 1 := by
        apply Classical.byContradiction
        intro e
        have e1 : m = max a.length b.length + 1 := by omega
        have e2 := HB.out
        rw [← e1] at e2
        omega
      have hend' : m + 1 = max a.length b.length + 1 → addC a b (max a.length b.length) ≠ 0 := fun e => by
        have e1 : m = max a.length b.length := by omega
        rw [← e1]
        omega
      have hd1 := HD.1
      have hd2 := HD.2
      push_cast at hd1 hd2
      have HD1 := Lib.hid hd1; have HD2 := Lib.hid hd2; have HE' := Lib.hid hend'
      clear hd1 hd2 hend' HD
      generalize a.getD m 0 = x at *
      generalize b.getD m 0 = y at *
      generalize hcc : addC a b m = c at *
      have HCC := Lib.hid hcc; clear hcc
      have hcase : (m < a.length) ∨ (¬ m < a.length ∧ m < b.length) ∨ (¬ m < a.length ∧ ¬ m < b.length ∧ 0 < c) := by omega
      clear hgo
      rcases hcase with h1 | ⟨h1, h2⟩ | ⟨h1, h2, h3⟩
      all_goals
        go_wp2_with (first
          | (go_at_call 57; (with_reducible refine A1.mono ?_); rintro e w' ⟨rfl, rfl⟩)
          | (go_at_call 57; (with_reducible refine B1.mono ?_); rintro e w' ⟨rfl, rfl⟩)
          | (at_builtin; refine wpList_snoc_int rfl _ _ rfl _ _ _ (addD a b m) rfl hrow rfl HD1.out (by omega) hB (Nat.le_refl _) (Nat.le_refl _) (by omega) ?_; intro v' w2 hrow2 hB2))
        go_roundw
        case rel => exact ⟨m + 1, hm', by go_num, by rw [HD2.out], by rw [HST.out]; exact hrow2, hB2, HE'.out⟩
        case measure => simp [intOf]; omega
    · have h1 : ¬ m < a.length := by omega
      have h2 : ¬ m < b.length := by omega
      have h3 : addC a b m = 0 := by omega
      have hres : addL a b m = plusL a b := by
        unfold plusL
        by_cases e : m = max a.length b.length
        · rw [← e, if_pos h3]
        · have e1 : m = max a.length b.length + 1 := by omega
          rw [if_neg (HEND.out e1), e1]
      rw [hres] at hrow
      rw [h3]
      clear hres h3 hgo
      go_wp2_with fail
      go_ret
      exact ⟨_, rfl, hrow, hB⟩

set_option maxRecDepth 100000 in
set_option maxHeartbeats 2000000 in
theorem rMinus_any (va vb : Value) (a b : List Nat) (w : World) (hva : Ints w va a) (hvb : Ints w vb b) (ha : ∀ d ∈ a, d < 10) (hb : ∀ d ∈ b, d < 10) (la : a.length ≤ 1000000) (lb : b.length ≤ 1000000) :
    Calls Tryd.prog 65 #[va, vb] w fun e w' => ∃ v, e = .returned v ∧ IntRow w.heap.size w' v (subL a b a.length) ∧ Below w.heap.size w w' := by
  obtain ⟨ba, bc, hfb⟩ := hvb.form _ rfl
  have HX := Lib.hid (getD_lt ha); have HY := Lib.hid (getD_lt hb); have HC := Lib.hid (subB_le a b)
  have hbt : ∀ (W : World) (m n : Nat), Below w.heap.size w W → m ≤ 1000000000 → Calls Tryd.prog 57 #[vb, .int .i64 m] (W.drewN n) fun e w' => e = .returned (.int .i64 ((b.getD m 0 : Nat) : Int)) ∧ w' = W.drewN n := fun W m n h hm => (rAt_any vb b m (W.drewN n) (hvb.later (below_drewN h n) (Nat.le_refl _)) (by omega) hm).mono fun _ _ ⟨e1, e2⟩ => ⟨e1, e2.symm⟩
  have hcell : ∀ m (hm : m < a.length), ∃ g o cap, va = .slice (some ⟨g, o, none⟩) a.length cap ∧ g < w.heap.size ∧ a.length ≤ cap ∧ w.cell? ⟨g, o + m, none⟩ = some (.int .i64 ((a.getD m 0 : Nat) : Int)) := fun m hm => by
    rcases hva with ⟨rfl, _⟩ | ⟨g, o, cap, hv, hg, hc, hmx, hcell⟩
    · simp at hm
    · refine ⟨g, o, cap, hv, hg, hc, ?_⟩
      rw [hcell m hm, List.getD_eq_getElem?_getD, List.getElem?_eq_getElem hm]
      rfl
  obtain ⟨aa, ac, hfa⟩ := hva.form _ rfl
  subst hfa hfb
  have HCELL := Lib.hid hcell; have HBT := Lib.hid hbt
  clear hcell hbt hva hvb
  go_enter Tryd.func65, Tryd.ntmps65
  go_wp2_with fail
  go_loopw [5, 6, 7] (fun v c i wr => ∃ m : Nat, m ≤ a.length ∧ i = .int .i64 m ∧ c = .int .i64 ((subB a b m : Nat) : Int) ∧ IntRow w.heap.size wr v (subL a b m) ∧ Below w.heap.size w wr) (fun _ _ i _ => a.length - (intOf i).toNat)
  case atStart => exact ⟨0, Nat.zero_le _, rfl, rfl, IntRow.nil _ _, Below.refl _ _⟩
  case round =>
    obtain ⟨m, hm, rfl, rfl, hrow, hB⟩ := hrel
    have hsz := hB.size
    by_cases hgo : m < a.length
    · have c1 := HC.out m
      have x1 := HX.out m
      have y1 := HY.out m
      have hlen : (subL a b m).length ≤ 1000001 := by rw [subL_length]; omega
      have HST := Lib.hid (subL_succ a b m)
      have B1 := fun n => HBT.out wr m n hB (by omega)
      obtain ⟨g, o, cap, hv, hg, hcap, hcl⟩ := HCELL.out m hgo
      obtain ⟨rfl, _, rfl⟩ : aa = some ⟨g, o, none⟩ ∧ a.length = a.length ∧ ac = cap := by simpa using hv
      have hcl := (hB.cell (p := ⟨g, o + m, none⟩) hg).trans hcl
      have hd1 : a.getD m 0 < b.getD m 0 + subB a b m → ((a.getD m 0 : Nat) : Int) - ((b.getD m 0 : Nat) : Int) - ((subB a b m : Nat) : Int) + 10 = ((subD a b m : Nat) : Int) ∧ subB a b (m + 1) = 1 := fun h => ⟨by unfold subD; rw [if_pos h]; omega, by simp only [subB]; rw [if_pos h]⟩
      have hd2 : ¬ a.getD m 0 < b.getD m 0 + subB a b m → ((a.getD m 0 : Nat) : Int) - ((b.getD m 0 : Nat) : Int) - ((subB a b m : Nat) : Int) = ((subD a b m : Nat) : Int) ∧ subB a b (m + 1) = 0 := fun h => ⟨by unfold subD; rw [if_neg h]; omega, by simp only [subB]; rw [if_neg h]⟩
      have H1 := Lib.hid hd1; have H2 := Lib.hid hd2
      clear hd1 hd2 hv
      generalize a.getD m 0 = x at *
      generalize b.getD m 0 = y at *
      generalize hcc : subB a b m = c at *
      have HCC := Lib.hid hcc; clear hcc
      have e1 : IntKind.i64.wrap ((x : Int) - (y : Int)) = (x : Int) - (y : Int) := IntWalk.i64_in _ (by omega)
      have e2 : IntKind.i64.wrap ((x : Int) - (y : Int) - (c : Int)) = (x : Int) - (y : Int) - (c : Int) := IntWalk.i64_in _ (by omega)
      go_wp2_with fail
      go_quiet ((go_at_call 57; exact Calls.quiet_of_same (B1 _)))
      clear e1 e2 B1
      have hrowN := hrow.later (w' := wr.drewN nq) (below_drewN (Below.refl _ _) nq)
      have hBN := below_drewN hB nq
      have hszN := hBN.size
      by_cases hlt : x < y + c
      · obtain ⟨hd, hb1⟩ := H1.out hlt
        have HD := Lib.hid hd; have HB1 := Lib.hid hb1
        clear hd hb1
        go_wp2_with (at_builtin; go_must (refine wpList_snoc_int rfl _ _ rfl _ _ _ (subD a b m) rfl hrowN rfl HD.out (by omega) hBN (Nat.le_refl _) (Nat.le_refl _) (by simpa using hszN) ?_); intro v' w2 hrow2 hB2)
        go_roundw
        case rel => exact ⟨m + 1, by omega, by go_num, by rw [HB1.out]; rfl, by rw [HST.out]; exact hrow2, hB2⟩
        case measure => simp [intOf]; omega
      · obtain ⟨hd, hb1⟩ := H2.out hlt
        have HD := Lib.hid hd; have HB1 := Lib.hid hb1
        clear hd hb1
        go_wp2_with (at_builtin; go_must (refine wpList_snoc_int rfl _ _ rfl _ _ _ (subD a b m) rfl hrowN rfl HD.out (by omega) hBN (Nat.le_refl _) (Nat.le_refl _) (by simpa using hszN) ?_); intro v' w2 hrow2 hB2)
        go_roundw
        case rel => exact ⟨m + 1, by omega, by go_num, by rw [HB1.out]; rfl, by rw [HST.out]; exact hrow2, hB2⟩
        case measure => simp [intOf]; omega
    · obtain rfl : m = a.length := by omega
      go_wp2_with fail
      go_ret
      exact ⟨_, rfl, hrow, hB⟩

/-- Is a row less than another? -/
def lessB (a b : List Nat) : Bool := decide (rowval a < rowval b)
set_option maxRecDepth 100000 in
set_option maxHeartbeats 2000000 in
theorem rLess_any (va vb : Value) (a b : List Nat) (w : World) (hva : Ints w va a) (hvb : Ints w vb b) (ha : ∀ d ∈ a, d < 10) (hb : ∀ d ∈ b, d < 10) (la : a.length ≤ 1000000) (lb : b.length ≤ 1000000) :
    Calls Tryd.prog 58 #[va, vb] w fun e w' => e = .returned (.bool (lessB a b)) ∧ w = w' := by
  obtain ⟨aa, ac, hfa⟩ := hva.form _ rfl
  obtain ⟨ba, bc, hfb⟩ := hvb.form _ rfl
  have hat : ∀ (m : Nat), m ≤ 1000000000 → Calls Tryd.prog 57 #[va, .int .i64 m] w fun e w' => e = .returned (.int .i64 ((a.getD m 0 : Nat) : Int)) ∧ w = w' := fun m hm => rAt_any va a m w hva (by omega) hm
  have hbt : ∀ (m : Nat), m ≤ 1000000000 → Calls Tryd.prog 57 #[vb, .int .i64 m] w fun e w' => e = .returned (.int .i64 ((b.getD m 0 : Nat) : Int)) ∧ w = w' := fun m hm => rAt_any vb b m w hvb (by omega) hm
  subst hfa hfb
  have HA := Lib.hid hat; have HBT := Lib.hid hbt; have H10a := Lib.hid ha; have H10b := Lib.hid hb
  clear hat hbt hva hvb ha hb
  have hmx : max ((a.length : Nat) : Int) ((b.length : Nat) : Int) = ((max a.length b.length : Nat) : Int) := by omega
  have hout : ∀ j, max a.length b.length ≤ j → a.getD j 0 = b.getD j 0 := fun j hj => by
    rw [List.getD_eq_getElem?_getD, List.getD_eq_getElem?_getD, List.getElem?_eq_none (by omega), List.getElem?_eq_none (by omega)]
  have hM : max a.length b.length ≤ 1000000 := by omega
  generalize max a.length b.length = M at *
  have HOUT := Lib.hid hout; clear hout
  go_enter Tryd.func58, Tryd.ntmps58
  go_wp2_with fail
  go_loop [5] (fun i => ∃ m : Nat, m ≤ M ∧ i = .int .i64 ((m : Int) - 1) ∧ EqFrom a b m) (fun i => (intOf i + 1).toNat)
  case atStart => exact ⟨M, Nat.le_refl _, rfl, HOUT.out⟩
  case round =>
    obtain ⟨m, hm, rfl, heq⟩ := hrel
    have HE := Lib.hid heq; clear heq
    cases m with
    | zero =>
      have HR := Lib.hid (show lessB a b = false from decide_eq_false (by rw [eq_from_zero HE.out]; omega))
      go_wp2_with fail
      go_ret
      exact ⟨ret_bool (by rw [HR.out]), rfl⟩
    | succ q =>
      rw [show ((q + 1 : Nat) : Int) - 1 = (q : Int) by omega]
      have A1 := HA.out q (by omega)
      have B1 := HBT.out q (by omega)
      by_cases hne : a.getD q 0 = b.getD q 0
      · rw [hne] at A1
        have HE2 : EqFrom a b q := fun j hj => by
          by_cases e : j = q
          · rw [e]; exact hne
          · exact HE.out j (by omega)
        have HE3 := Lib.hid HE2; clear HE2
        clear hne
        generalize b.getD q 0 = y at *
        go_wp2_with (first
          | (go_at_call 57; (with_reducible refine A1.mono ?_); rintro e w' ⟨rfl, rfl⟩)
          | (go_at_call 57; (with_reducible refine B1.mono ?_); rintro e w' ⟨rfl, rfl⟩))
        go_round
        case rel => exact ⟨q, by omega, rfl, HE3.out⟩
        case measure => first | (simp [intOf]; done) | (simp [intOf]; omega)
      · have hl := less_at H10a.out H10b.out HE.out hne
        have HR := Lib.hid (show lessB a b = decide (a.getD q 0 < b.getD q 0) by unfold lessB; rw [Bool.eq_iff_iff]; simp only [decide_eq_true_eq]; exact hl)
        clear hl
        have hne' : ((a.getD q 0 : Int) == (b.getD q 0 : Int)) = false := by rw [beq_eq_false_iff_ne]; omega
        have hne2 : ((a.getD q 0 : Int) != (b.getD q 0 : Int)) = true := by rw [bne_iff_ne]; omega
        clear hne
        generalize a.getD q 0 = x at *
        generalize b.getD q 0 = y at *
        go_wp2_with (first
          | (go_at_call 57; (with_reducible refine A1.mono ?_); rintro e w' ⟨rfl, rfl⟩)
          | (go_at_call 57; (with_reducible refine B1.mono ?_); rintro e w' ⟨rfl, rfl⟩))
        go_ret
        exact ⟨ret_bool (by rw [HR.out]), rfl⟩
end Go.Proofs.YtgccppilhbannaaDoor
