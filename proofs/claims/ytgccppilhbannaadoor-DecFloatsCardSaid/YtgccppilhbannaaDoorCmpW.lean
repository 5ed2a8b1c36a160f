/-
  The walks of dec.both, Sign, sgn, Neg and Compare.
-/
import Derived.Test.YtgccppilhbannaaDoorLevel
import Derived.Test.YtgccppilhbannaaDoorSlCmp
import Derived.Test.YtgccppilhbannaaDoorSumP
namespace Go.Proofs.YtgccppilhbannaaDoor
open Go.RowKit Go.PlainAid

set_option maxRecDepth 100000 in
set_option maxHeartbeats 1000000 in
theorem both_yes {n1 : Bool} {d1 : ByteArray} {k1 : Int} {n2 : Bool} {d2 : ByteArray} {k2 : Int} (h1 : rightB n1 d1 k1 = true) (h2 : rightB n2 d2 k2 = true) (w : World) :
    Calls Tryd.prog 60 #[.agg #[.bool n1, .string d1, .int .i64 k1], .agg #[.bool n2, .string d2, .int .i64 k2]] w fun e w' => e = .returned (.int .i64 0) ∧ Below w.heap.size w w' := by
  have hc1 := fun W => check_yes h1 W
  have hc2 := fun W => check_yes h2 W
  clear h1 h2
  go_enter Tryd.func60, Tryd.ntmps60
  go_wp2_with fail
  refine (hc1 _).mono ?_
  rintro e w1 ⟨rfl, hB1⟩
  have kb := (Blk.new' (w.alloc _) _ _ (w.heap.size + 1) (by simp)).on hB1
  have hBw1 := (((Below.refl w.heap.size w).alloc (Nat.le_refl _) _).alloc (by simp) _).trans (hB1.mono (by simp; omega))
  have cb := kb.cell
  clear hc1 hB1
  go_wp2_with fail
  refine (hc2 _).mono ?_
  rintro e w2 ⟨rfl, hB2⟩
  have hBw := hBw1.trans (hB2.mono hBw1.size)
  clear cb hc2
  go_wp2_with fail
  go_ret
  exact ⟨rfl, hBw⟩
set_option maxRecDepth 100000 in
set_option maxHeartbeats 1000000 in
theorem both_no {n1 : Bool} {d1 : ByteArray} {k1 : Int} {n2 : Bool} {d2 : ByteArray} {k2 : Int} (h : rightB n1 d1 k1 = false ∨ rightB n2 d2 k2 = false) (w : World) :
    Calls Tryd.prog 60 #[.agg #[.bool n1, .string d1, .int .i64 k1], .agg #[.bool n2, .string d2, .int .i64 k2]] w fun e w' => e = .returned (.int .i64 2) ∧ Below w.heap.size w w' := by
  cases h1 : rightB n1 d1 k1 with
  | false =>
    have hc1 := fun W => check_no h1 W
    clear h1 h
    go_enter Tryd.func60, Tryd.ntmps60
    go_wp2_with fail
    refine (hc1 _).mono ?_
    rintro e w1 ⟨rfl, hB1⟩
    have hBw1 := (((Below.refl w.heap.size w).alloc (Nat.le_refl _) (.cells #[.bool n1, .string d1, .int .i64 k1] 23)).alloc (by simp) (.cells #[.bool n2, .string d2, .int .i64 k2] 23)).trans (hB1.mono (by simp; omega))
    clear hc1 hB1
    go_wp2_with fail
    go_ret
    exact ⟨rfl, hBw1⟩
  | true =>
    have h2 : rightB n2 d2 k2 = false := by rcases h with h | h; { rw [h1] at h; cases h }; exact h
    have hc1 := fun W => check_yes h1 W
    have hc2 := fun W => check_no h2 W
    clear h1 h2 h
    go_enter Tryd.func60, Tryd.ntmps60
    go_wp2_with fail
    refine (hc1 _).mono ?_
    rintro e w1 ⟨rfl, hB1⟩
    have kb := (Blk.new' (w.alloc _) _ _ (w.heap.size + 1) (by simp)).on hB1
    have hBw1 := (((Below.refl w.heap.size w).alloc (Nat.le_refl _) _).alloc (by simp) _).trans (hB1.mono (by simp; omega))
    have cb := kb.cell
    clear hc1 hB1
    go_wp2_with fail
    refine (hc2 _).mono ?_
    rintro e w2 ⟨rfl, hB2⟩
    have hBw := hBw1.trans (hB2.mono hBw1.size)
    clear cb hc2
    go_wp2_with fail
    go_ret
    exact ⟨rfl, hBw⟩

/-- The text of a right decimal's digits is "0" just if it is nought. -/
theorem right_zero {neg : Bool} {ds : ByteArray} {k : Int} (h : rightB neg ds k = true) : (ds.toList == [48]) = decide (dval ds = 0) := by
  by_cases h0 : dval ds = 0
  · have e := right_digs h
    rw [h0] at e
    rw [decide_eq_true h0, ← e]
    decide +kernel
  · have e := digs_ne h0
    rw [right_digs h] at e
    rw [e, decide_eq_false h0]
set_option maxRecDepth 100000 in
set_option maxHeartbeats 1000000 in
theorem sign_yes {neg : Bool} {ds : ByteArray} {k : Int} (h : rightB neg ds k = true) (w : World) :
    Calls Tryd.prog 38 #[.agg #[.bool neg, .string ds, .int .i64 k]] w fun e w' => e = .returned (.int .i64 (sgnN neg (dval ds))) ∧ Below w.heap.size w w' := by
  have hc1 := fun W => check_yes h W
  have hz := right_zero h
  clear h
  have hcase : ((ds.toList == [48]) = true ∧ sgnN neg (dval ds) = 0) ∨ ((ds.toList == [48]) = false ∧ neg = true ∧ sgnN neg (dval ds) = -1) ∨ ((ds.toList == [48]) = false ∧ neg = false ∧ sgnN neg (dval ds) = 1) := by
    unfold sgnN
    by_cases h0 : dval ds = 0
    · exact .inl ⟨by rw [hz]; exact decide_eq_true h0, if_pos h0⟩
    · rw [decide_eq_false h0] at hz
      cases neg with
      | true => exact .inr (.inl ⟨hz, rfl, by rw [if_neg h0]; rfl⟩)
      | false => exact .inr (.inr ⟨hz, rfl, by rw [if_neg h0]; rfl⟩)
  clear hz
  obtain ⟨s, hs⟩ : ∃ s, sgnN neg (dval ds) = s := ⟨_, rfl⟩
  rw [hs] at hcase ⊢
  clear hs
  rcases hcase with ⟨hz, rfl⟩ | ⟨hz, rfl, rfl⟩ | ⟨hz, rfl, rfl⟩
  all_goals
    go_enter Tryd.func38, Tryd.ntmps38
    go_wp2_with fail
    refine (hc1 _).mono ?_
    rintro e w1 ⟨rfl, hB1⟩
    have ka := (Blk.new w _ _).on hB1
    have hBw := ((Below.refl w.heap.size w).alloc (Nat.le_refl _) _).trans (hB1.mono (by simp))
    have ca := ka.cell
    clear hc1 hB1
    go_wp2_with fail
    go_ret
    exact ⟨rfl, hBw⟩
set_option maxRecDepth 100000 in
theorem sign_no {neg : Bool} {ds : ByteArray} {k : Int} (h : rightB neg ds k = false) (w : World) :
    Calls Tryd.prog 38 #[.agg #[.bool neg, .string ds, .int .i64 k]] w fun e w' => e = .returned (.int .i64 0) ∧ Below w.heap.size w w' := by
  have hc1 := fun W => check_no h W
  clear h
  go_enter Tryd.func38, Tryd.ntmps38
  go_wp2_with fail
  refine (hc1 _).mono ?_
  rintro e w1 ⟨rfl, hB1⟩
  have hBw := ((Below.refl w.heap.size w).alloc (Nat.le_refl _) (.cells #[.bool neg, .string ds, .int .i64 k] 23)).trans (hB1.mono (by simp))
  clear hc1 hB1
  go_wp2_with fail
  go_ret
  exact ⟨rfl, hBw⟩
set_option maxRecDepth 100000 in
theorem sgn_any (a : Int) (w : World) : Calls Tryd.prog 64 #[.int .i64 a] w fun e w' => e = .returned (.int .i64 (min 1 (max (-1) a))) ∧ w = w' := by
  go_enter Tryd.func64, Tryd.ntmps64
  go_wp2_with fail
  go_ret
  exact ⟨rfl, rfl⟩

/-- The sign that a turned decimal has. -/
def turnB (neg : Bool) (ds : ByteArray) : Bool := !neg && !(ds.toList == [48])
set_option maxRecDepth 100000 in
set_option maxHeartbeats 1000000 in
theorem neg_yes {neg : Bool} {ds : ByteArray} {k : Int} (h : rightB neg ds k = true) (w : World) :
    Calls Tryd.prog 36 #[.agg #[.bool neg, .string ds, .int .i64 k]] w fun e w' => e = .returned (decE (turnB neg ds, ds, k, 0)) ∧ Below w.heap.size w w' := by
  have hc1 := fun W => check_yes h W
  clear h
  have hcase : (neg = true ∧ turnB neg ds = false) ∨ (neg = false ∧ (ds.toList == [48]) = true ∧ turnB neg ds = false) ∨ (neg = false ∧ (ds.toList == [48]) = false ∧ turnB neg ds = true) := by
    unfold turnB
    cases neg with
    | true => exact .inl ⟨rfl, rfl⟩
    | false =>
      cases hz : (ds.toList == [48]) with
      | true => exact .inr (.inl ⟨rfl, rfl, rfl⟩)
      | false => exact .inr (.inr ⟨rfl, rfl, rfl⟩)
  obtain ⟨t, ht⟩ : ∃ t, turnB neg ds = t := ⟨_, rfl⟩
  rw [ht] at hcase ⊢
  clear ht
  rcases hcase with ⟨rfl, rfl⟩ | ⟨rfl, hz, rfl⟩ | ⟨rfl, hz, rfl⟩
  all_goals
    go_enter Tryd.func36, Tryd.ntmps36
    go_wp2_with fail
    refine (hc1 _).mono ?_
    rintro e w1 ⟨rfl, hB1⟩
    have ka := ((Blk.new w _ _).alloc _).on hB1
    have kb := (Blk.new' (w.alloc _) _ _ (w.heap.size + 1) (by simp)).on hB1
    have hBw := (((Below.refl w.heap.size w).alloc (Nat.le_refl _) _).alloc (by simp) _).trans (hB1.mono (by simp; omega))
    have ca := ka.cell
    have fa := ka.free
    have cb := kb.cell
    have fb := kb.free
    clear hc1 hB1
    go_wp2_with fail
    refine bodyPost_ret ?_ rfl ⟨rfl, ?_⟩
    · simp [results, Tryd.results36, go_sem, cb]
    · repeat (refine Below.setCell ?_ (by first | exact Nat.le_refl _ | exact Nat.le_succ _) _)
      exact hBw

theorem neg_nz {n : Bool} {d : ByteArray} {k : Int} (h : rightB n d k = true) (hn : n = true) : dval d ≠ 0 := fun h0 => by
  obtain ⟨h1, _, _, _, h5, _⟩ := of_decide_eq_true h
  have e := right_digs h
  rw [h0] at e
  apply h5
  rw [← e]
  exact ⟨by decide +kernel, .inr hn⟩
/-- The number that Compare tells. -/
def cmpD (n1 : Bool) (d1 : ByteArray) (k1 : Nat) (n2 : Bool) (d2 : ByteArray) (k2 : Nat) : Int := cmpZ (sv n1 (dval d1 * 10 ^ (max k1 k2 - k1))) (sv n2 (dval d2 * 10 ^ (max k1 k2 - k2)))

set_option maxRecDepth 100000 in
set_option maxHeartbeats 2000000 in
theorem compare_yes {n1 : Bool} {d1 : ByteArray} {k1 : Nat} {n2 : Bool} {d2 : ByteArray} {k2 : Nat} (h1 : rightB n1 d1 k1 = true) (h2 : rightB n2 d2 k2 = true) (w : World) :
    Calls Tryd.prog 30 #[.agg #[.bool n1, .string d1, .int .i64 k1], .agg #[.bool n2, .string d2, .int .i64 k2]] w fun e w' => e = .returned (.tuple #[.int .i64 (cmpD n1 d1 k1 n2 d2 k2), .int .i64 0]) ∧ Below w.heap.size w w' := by
  have hbo := fun W => both_yes h1 h2 W
  obtain ⟨a1, a2, a3, a4, _, a6⟩ := of_decide_eq_true h1
  obtain ⟨b1, b2, b3, b4, _, b6⟩ := of_decide_eq_true h2
  have hlv := fun W => level_any n1 d1 k1 n2 d2 k2 W a6 b6 (by omega) (by omega) (by omega) (by omega) (by omega)
  have hnz1 : n1 = true → dval d1 ≠ 0 := neg_nz h1
  have H1 := Lib.hid h1; have H2 := Lib.hid h2; have HNZ := Lib.hid hnz1
  have hs1 : sgnN n1 (dval d1) = 0 ∨ sgnN n1 (dval d1) = -1 ∨ sgnN n1 (dval d1) = 1 := by
    unfold sgnN; split; exact .inl rfl; split; exact .inr (.inl rfl); exact .inr (.inr rfl)
  have hs2 : sgnN n2 (dval d2) = 0 ∨ sgnN n2 (dval d2) = -1 ∨ sgnN n2 (dval d2) = 1 := by
    unfold sgnN; split; exact .inl rfl; split; exact .inr (.inl rfl); exact .inr (.inr rfl)
  have HS1 := Lib.hid hs1; have HS2 := Lib.hid hs2
  have HG1 := Lib.hid (fun x => sgnN_mul n1 (dval d1) x)
  have HG2 := Lib.hid (fun x => sgnN_mul n2 (dval d2) x)
  clear h1 h2 a6 b6 hnz1 hs1 hs2
  go_enter Tryd.func30, Tryd.ntmps30
  go_wp2_with fail
  refine (hbo _).mono ?_
  rintro e w1 ⟨rfl, hB1⟩
  have ka := ((Blk.new w _ _).alloc _).on hB1
  have kb := (Blk.new' (w.alloc _) _ _ (w.heap.size + 1) (by simp)).on hB1
  have hBw := (((Below.refl w.heap.size w).alloc (Nat.le_refl _) _).alloc (by simp) _).trans (hB1.mono (by simp; omega))
  have ca := ka.cell
  have cb := kb.cell
  clear hbo hB1
  go_wp2_with fail
  refine (hlv _).mono ?_
  rintro e w2 ⟨vx, vy, x, y, rfl, hX, hY, hL, hB2⟩
  obtain ⟨x1, y1, hxy, hx1, hx4, hvx, hvy⟩ := hL
  have ka := ka.on hB2
  have kb := kb.on hB2
  have hBw := hBw.trans (hB2.mono hBw.size)
  have hcp := fun W (hx : Bts W vx x) (hy : Bts W vy y) => slcmp_any vx vy x y W hx hy hxy (by omega) x1 y1
  rw [hvx, hvy] at hcp
  have HR := Lib.hid (show cmpD n1 d1 k1 n2 d2 k2 = cmpZ (sv n1 (dval d1 * 10 ^ (max k1 k2 - k1))) (sv n2 (dval d2 * 10 ^ (max k1 k2 - k2))) from rfl)
  clear ca cb hB2 hlv x1 y1 hxy hx1 hx4 hvx hvy
  have ca := ka.cell
  have cb := kb.cell
  have g1 := HG1.out (max k1 k2 - k1)
  have g2 := HG2.out (max k1 k2 - k2)
  have hnzX : n1 = true → dval d1 * 10 ^ (max k1 k2 - k1) ≠ 0 := fun h e => by
    rcases Nat.mul_eq_zero.1 e with e | e
    · exact HNZ.out h e
    · have := Nat.pow_pos (n := max k1 k2 - k1) (show 0 < 10 by decide); omega
  generalize dval d1 * 10 ^ (max k1 k2 - k1) = X at *
  generalize dval d2 * 10 ^ (max k1 k2 - k2) = Y at *
  have HNX := Lib.hid hnzX; have HG1' := Lib.hid g1; have HG2' := Lib.hid g2
  clear g1 g2 hnzX
  go_wp2_with fail
  refine (hcp _ hX hY).mono ?_
  rintro e w' ⟨rfl, rfl⟩
  have hS := Hold2.mk ka kb hBw (Nat.le_refl _)
  clear ca cb hcp hX hY
  go_upto_region 7 with fail
  by_cases hsd : sgnN n1 (dval d1) = sgnN n2 (dval d2)
  · have HSD := Lib.hid hsd
    go_region_held3 (fun w' => (∀ o, w'.cell? ⟨w.heap.size, o, none⟩ = #[Value.bool n1, Value.string d1, Value.int .i64 k1][o]?) ∧ (∀ o, w'.cell? ⟨w.heap.size + 1, o, none⟩ = #[Value.bool n2, Value.string d2, Value.int .i64 k2][o]?) ∧ Below w.heap.size w w')
      (first | exact hS3.two | exact hS.drew.two)
      (first
        | (go_at_call 38; refine (hold_call (sign_yes (by first | exact H1.out | exact H2.out) _) (by first | exact hS3 | exact hS.drew)).mono ?_; rintro e w3 ⟨rfl, hS3⟩))
    have hcl : cmpN X Y = 0 ∨ cmpN X Y = -1 ∨ cmpN X Y = 1 := by
      unfold cmpN; split; exact .inr (.inl rfl); split; exact .inr (.inr rfl); exact .inl rfl
    have hXY : sgnN n1 X = sgnN n2 Y := HG1'.out.trans (HSD.out.trans HG2'.out.symm)
    have hres : (n1 = true → cmpD n1 d1 k1 n2 d2 k2 = -cmpN X Y) ∧ (n1 = false → cmpD n1 d1 k1 n2 d2 k2 = cmpN X Y) := by
      rw [HR.out]
      refine ⟨fun h => ?_, fun h => ?_⟩
      · have hx := HNX.out h
        subst h
        exact cmp_neg hx hXY
      · subst h
        exact cmp_pos hXY
    have hBw := hS3.2.2.2.2.1
    have ca := hS3.1
    have HRES := Lib.hid hres
    clear hS3 hS hXY hres hsd ka kb
    generalize cmpN X Y = c at *
    have e1 : IntKind.i64.wrap (-c) = -c := IntWalk.i64_in _ (by omega)
    cases n1 with
    | true =>
      have HR2 := Lib.hid (HRES.out.1 rfl)
      go_wp2_with fail
      go_ret2
      exact ⟨by rw [HR2.out]; simp, hBw⟩
    | false =>
      have HR2 := Lib.hid (HRES.out.2 rfl)
      go_wp2_with fail
      go_ret2
      exact ⟨by rw [HR2.out]; simp, hBw⟩
  · have hXY : sgnN n1 X ≠ sgnN n2 Y := fun e => hsd (HG1'.out.symm.trans (e.trans HG2'.out))
    have hres := cmp_signs hXY
    rw [← HR.out, HG1'.out, HG2'.out] at hres
    have HRES := Lib.hid hres
    have e1 : IntKind.i64.wrap (sgnN n1 (dval d1) - sgnN n2 (dval d2)) = sgnN n1 (dval d1) - sgnN n2 (dval d2) := IntWalk.i64_in _ (by have := HS1.out; have := HS2.out; omega)
    clear hres hXY
    go_region_held3 (fun w' => (∀ o, w'.cell? ⟨w.heap.size, o, none⟩ = #[Value.bool n1, Value.string d1, Value.int .i64 k1][o]?) ∧ (∀ o, w'.cell? ⟨w.heap.size + 1, o, none⟩ = #[Value.bool n2, Value.string d2, Value.int .i64 k2][o]?) ∧ Below w.heap.size w w')
      (first | exact hS3.two | exact hS.drew.two)
      (first
        | (go_at_call 38; refine (hold_call (sign_yes (by first | exact H1.out | exact H2.out) _) (by first | exact hS3 | exact hS.drew)).mono ?_; rintro e w3 ⟨rfl, hS3⟩))
    have hS := hS3
    clear hS3
    go_upto_region 8 with fail
    go_region_held3 (fun w' => (∀ o, w'.cell? ⟨w.heap.size, o, none⟩ = #[Value.bool n1, Value.string d1, Value.int .i64 k1][o]?) ∧ (∀ o, w'.cell? ⟨w.heap.size + 1, o, none⟩ = #[Value.bool n2, Value.string d2, Value.int .i64 k2][o]?) ∧ Below w.heap.size w w')
      (first | exact hS3.two | exact hS.drew.two)
      (first
        | (go_at_call 38; refine (hold_call (sign_yes (by first | exact H1.out | exact H2.out) _) (by first | exact hS3 | exact hS.drew)).mono ?_; rintro e w3 ⟨rfl, hS3⟩)
        | (go_at_call 64; refine (sgn_any _ _).mono ?_; rintro e w' ⟨rfl, rfl⟩))
    have hBw := hS3.2.2.2.2.1
    go_wp2_with fail
    go_ret2
    exact ⟨by rw [HRES.out]; simp, hBw⟩
end Go.Proofs.YtgccppilhbannaaDoor
