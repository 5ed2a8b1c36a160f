/-
  The walks of dec.Add and Sub; Compare of what may not be.
-/
import Derived.Test.YtgccppilhbannaaDoorCmpW
import Derived.Test.YtgccppilhbannaaDoorMinus
namespace Go.Proofs.YtgccppilhbannaaDoor
open Go.RowKit Go.PlainAid

set_option maxRecDepth 100000 in
set_option maxHeartbeats 1000000 in
theorem compare_no {n1 : Bool} {d1 : ByteArray} {k1 : Int} {n2 : Bool} {d2 : ByteArray} {k2 : Int} (h : rightB n1 d1 k1 = false ∨ rightB n2 d2 k2 = false) (w : World) :
    Calls Tryd.prog 30 #[.agg #[.bool n1, .string d1, .int .i64 k1], .agg #[.bool n2, .string d2, .int .i64 k2]] w fun e w' => e = .returned (.tuple #[.int .i64 0, .int .i64 2]) ∧ Below w.heap.size w w' := by
  have hbo := fun W => both_no h W
  clear h
  go_enter Tryd.func30, Tryd.ntmps30
  go_wp2_with fail
  refine (hbo _).mono ?_
  rintro e w1 ⟨rfl, hB1⟩
  have hBw := (((Below.refl w.heap.size w).alloc (Nat.le_refl _) (.cells #[.bool n1, .string d1, .int .i64 k1] 23)).alloc (by simp) (.cells #[.bool n2, .string d2, .int .i64 k2] 23)).trans (hB1.mono (by simp; omega))
  clear hbo hB1
  go_wp2_with fail
  go_ret2
  exact ⟨by simp, hBw⟩
set_option maxRecDepth 100000 in
set_option maxHeartbeats 1000000 in
theorem add_no {n1 : Bool} {d1 : ByteArray} {k1 : Int} {n2 : Bool} {d2 : ByteArray} {k2 : Int} (h : rightB n1 d1 k1 = false ∨ rightB n2 d2 k2 = false) (w : World) :
    Calls Tryd.prog 27 #[.agg #[.bool n1, .string d1, .int .i64 k1], .agg #[.bool n2, .string d2, .int .i64 k2]] w fun e w' => e = .returned noneE ∧ Below w.heap.size w w' := by
  have hbo := fun W => both_no h W
  clear h
  go_enter Tryd.func27, Tryd.ntmps27
  go_wp2_with fail
  refine (hbo _).mono ?_
  rintro e w1 ⟨rfl, hB1⟩
  have kr := (Blk.new' ((w.alloc _).alloc _) _ _ (w.heap.size + 2) (by simp)).on hB1
  have hBw := ((((Below.refl w.heap.size w).alloc (Nat.le_refl _) (.cells #[.bool n1, .string d1, .int .i64 k1] 23)).alloc (by simp) (.cells #[.bool n2, .string d2, .int .i64 k2] 23)).alloc (by simp; omega) _).trans (hB1.mono (by simp; omega))
  have cr := kr.cell
  have fr := kr.free
  clear hbo hB1
  go_wp2_with fail
  refine bodyPost_ret ?_ rfl ⟨rfl, ?_⟩
  · simp [results, Tryd.results27, go_sem, cr]
  · repeat (refine Below.setCell ?_ (by show w.heap.size ≤ w.heap.size + 2; omega) _)
    exact hBw
set_option maxRecDepth 100000 in
set_option maxHeartbeats 1000000 in
theorem sub_no {n1 : Bool} {d1 : ByteArray} {k1 : Int} {n2 : Bool} {d2 : ByteArray} {k2 : Int} (h : rightB n1 d1 k1 = false ∨ rightB n2 d2 k2 = false) (w : World) :
    Calls Tryd.prog 28 #[.agg #[.bool n1, .string d1, .int .i64 k1], .agg #[.bool n2, .string d2, .int .i64 k2]] w fun e w' => e = .returned noneE ∧ Below w.heap.size w w' := by
  have hbo := fun W => both_no h W
  clear h
  go_enter Tryd.func28, Tryd.ntmps28
  go_wp2_with fail
  refine (hbo _).mono ?_
  rintro e w1 ⟨rfl, hB1⟩
  have kr := (Blk.new' ((w.alloc _).alloc _) _ _ (w.heap.size + 2) (by simp)).on hB1
  have hBw := ((((Below.refl w.heap.size w).alloc (Nat.le_refl _) (.cells #[.bool n1, .string d1, .int .i64 k1] 23)).alloc (by simp) (.cells #[.bool n2, .string d2, .int .i64 k2] 23)).alloc (by simp; omega) _).trans (hB1.mono (by simp; omega))
  have cr := kr.cell
  have fr := kr.free
  clear hbo hB1
  go_wp2_with fail
  refine bodyPost_ret ?_ rfl ⟨rfl, ?_⟩
  · simp [results, Tryd.results28, go_sem, cr]
  · repeat (refine Below.setCell ?_ (by show w.heap.size ≤ w.heap.size + 2; omega) _)
    exact hBw

/-- The sum of two decimals. -/
def addR (n1 : Bool) (d1 : ByteArray) (k1 : Nat) (n2 : Bool) (d2 : ByteArray) (k2 : Nat) : Bool × ByteArray × Int × Int :=
  madeZ (sv n1 (dval d1 * 10 ^ (max k1 k2 - k1)) + sv n2 (dval d2 * 10 ^ (max k1 k2 - k2))) ((max k1 k2 : Nat) : Int)

set_option maxRecDepth 100000 in
set_option maxHeartbeats 2000000 in
theorem add_yes {n1 : Bool} {d1 : ByteArray} {k1 : Nat} {n2 : Bool} {d2 : ByteArray} {k2 : Nat} (h1 : rightB n1 d1 k1 = true) (h2 : rightB n2 d2 k2 = true) (w : World) :
    Calls Tryd.prog 27 #[.agg #[.bool n1, .string d1, .int .i64 k1], .agg #[.bool n2, .string d2, .int .i64 k2]] w fun e w' => e = .returned (decE (addR n1 d1 k1 n2 d2 k2)) ∧ Below w.heap.size w w' := by
  have hbo := fun W => both_yes h1 h2 W
  obtain ⟨a1, a2, a3, a4, _, a6⟩ := of_decide_eq_true h1
  obtain ⟨b1, b2, b3, b4, _, b6⟩ := of_decide_eq_true h2
  have hlv := fun W => level_any n1 d1 k1 n2 d2 k2 W a6 b6 (by omega) (by omega) (by omega) (by omega) (by omega)
  clear h1 h2 a6 b6
  obtain ⟨R, hR⟩ : ∃ R, addR n1 d1 k1 n2 d2 k2 = R := ⟨_, rfl⟩
  rw [hR]
  unfold addR at hR
  have HR := Lib.hid hR
  clear hR
  go_enter Tryd.func27, Tryd.ntmps27
  go_wp2_with fail
  refine (hbo _).mono ?_
  rintro e w1 ⟨rfl, hB1⟩
  have ka := (((Blk.new w _ _).alloc _).alloc _).on hB1
  have kb := ((Blk.new' (w.alloc _) _ _ (w.heap.size + 1) (by simp)).alloc _).on hB1
  have kr := (Blk.new' ((w.alloc _).alloc _) _ _ (w.heap.size + 2) (by simp)).on hB1
  have hBw := ((((Below.refl w.heap.size w).alloc (Nat.le_refl _) _).alloc (by simp) _).alloc (by simp; omega) _).trans (hB1.mono (by simp; omega))
  have ca := ka.cell
  have cb := kb.cell
  clear hbo hB1
  go_wp2_with fail
  refine (hlv _).mono ?_
  rintro e w2 ⟨vx, vy, x, y, rfl, hX, hY, hL, hB2⟩
  obtain ⟨x1, y1, hxy, hx1, hx4, hvx, hvy⟩ := hL
  have ka := ka.on hB2
  have kb := kb.on hB2
  have kr := kr.on hB2
  have hBw := hBw.trans (hB2.mono hBw.size)
  clear ca cb hlv hB2
  generalize max k1 k2 = K at *
  rw [← hvx, ← hvy] at HR
  clear hvx hvy
  have hmd : ∀ (neg : Bool) (s : ByteArray), AllDig s → ∀ W, Calls Tryd.prog 49 #[.bool neg, .string s, .int .i64 K] W fun e w' => e = .returned (decE (madeZ (sv neg (dval s)) K)) ∧ Below W.heap.size W w' := fun neg s hs W => by
    have h := made_any neg s K W hs
    rw [madeR_sv] at h
    exact h
  have HMD := Lib.hid hmd
  clear hmd
  have ca := ka.cell
  have cb := kb.cell
  by_cases hn : n1 = n2
  · subst hn
    have hpl := fun W (hx : Bts W vx x) (hy : Bts W vy y) => plus_any vx vy x y W hx hy hxy (by omega) x1 y1
    have hmd := HMD.out n1 (plusS x y) (plusS_dig x1 y1)
    rw [dval_plusS x1 y1 hxy, ← sv_add, HR.out] at hmd
    generalize plusS x y = P at *
    have hS := Hold2.mk ka kr hBw (Nat.le_refl _)
    clear ka kb kr hBw x1 y1 HR HMD
    go_upto_region 6 with fail
    clear ca cb
    go_region_held3 (fun w' => (∀ o, w'.cell? ⟨w.heap.size, o, none⟩ = #[Value.bool n1, Value.string d1, Value.int .i64 k1][o]?) ∧ Below w.heap.size w w')
      (first | exact hS.one.drew | exact hS3.one | exact hS4.one | exact ((hS4.one.set (w.heap.size + 2) 0 _ (by omega) (by omega)).set (w.heap.size + 2) 1 _ (by omega) (by omega)).set (w.heap.size + 2) 2 _ (by omega) (by omega))
      (first
        | (go_at_call 56; refine (hold_call (hpl _ (hX.later ((Below.refl _ _).drew) (Nat.le_refl _)) (hY.later ((Below.refl _ _).drew) (Nat.le_refl _))) hS.drew).mono ?_; rintro e w3 ⟨rfl, hS3⟩)
        | (go_at_call 49; refine (hold_call (hmd _) hS3).mono ?_; rintro e w4 ⟨rfl, hS4⟩; obtain ⟨_, _, q4, f4, _⟩ := id hS4))
    go_wp2
    refine bodyPost_ret (v := decE R) (by simp [results, Tryd.results27, go_sem, q4]) rfl ⟨rfl, ?_⟩
    exact ((hS4.2.2.2.2.1.setCell (p := ⟨w.heap.size + 2, 0, none⟩) (Nat.le_add_right _ _) _).setCell (p := ⟨w.heap.size + 2, 1, none⟩) (Nat.le_add_right _ _) _).setCell (p := ⟨w.heap.size + 2, 2, none⟩) (Nat.le_add_right _ _) _
  · have hcp := fun W (hx : Bts W vx x) (hy : Bts W vy y) => slcmp_any vx vy x y W hx hy hxy (by omega) x1 y1
    have hns : (n1 == n2) = false := by rw [beq_eq_false_iff_ne]; exact hn
    have hcc := cmpN_cases (dval x) (dval y)
    obtain ⟨c, hc⟩ : ∃ c, cmpN (dval x) (dval y) = c := ⟨_, rfl⟩
    rw [hc] at hcp hcc
    clear hc
    by_cases hle : dval y ≤ dval x
    · have hc0 : 0 ≤ c := by omega
      have hpl := fun W (hx : Bts W vx x) (hy : Bts W vy y) => minus_any vx vy x y W hx hy hxy hx1 (by omega) x1 y1
      have hmd := HMD.out n1 (minusS x y) (minusS_dig x1)
      rw [dval_minusS x1 y1 hxy hle, ← sv_sub hn hle, HR.out] at hmd
      generalize minusS x y = P at *
      have hS := Hold2.mk ka kr hBw (Nat.le_refl _)
      have HN := Lib.hid hn
      clear ka kb kr hBw x1 y1 HR HMD hle hcc hn
      go_wp2_with fail
      refine (hcp _ hX hY).mono ?_
      rintro e w' ⟨rfl, rfl⟩
      go_upto_region 8 with fail
      clear ca cb
      go_region_held3 (fun w' => (∀ o, w'.cell? ⟨w.heap.size, o, none⟩ = #[Value.bool n1, Value.string d1, Value.int .i64 k1][o]?) ∧ Below w.heap.size w w')
        (first | exact hS.one.drew | exact hS3.one | exact hS4.one | exact ((hS4.one.set (w.heap.size + 2) 0 _ (by omega) (by omega)).set (w.heap.size + 2) 1 _ (by omega) (by omega)).set (w.heap.size + 2) 2 _ (by omega) (by omega))
        (first
          | (go_at_call 63; refine (hold_call (hpl _ (hX.later ((Below.refl _ _).drew) (Nat.le_refl _)) (hY.later ((Below.refl _ _).drew) (Nat.le_refl _))) hS.drew).mono ?_; rintro e w3 ⟨rfl, hS3⟩)
          | (go_at_call 49; refine (hold_call (hmd _) hS3).mono ?_; rintro e w4 ⟨rfl, hS4⟩; obtain ⟨_, _, q4, f4, _⟩ := id hS4))
      go_wp2
      refine bodyPost_ret (v := decE R) (by simp [results, Tryd.results27, go_sem, q4]) rfl ⟨rfl, ?_⟩
      exact ((hS4.2.2.2.2.1.setCell (p := ⟨w.heap.size + 2, 0, none⟩) (Nat.le_add_right _ _) _).setCell (p := ⟨w.heap.size + 2, 1, none⟩) (Nat.le_add_right _ _) _).setCell (p := ⟨w.heap.size + 2, 2, none⟩) (Nat.le_add_right _ _) _
    · have hc0 : ¬ 0 ≤ c := by omega
      have hpl := fun W (hx : Bts W vy y) (hy : Bts W vx x) => minus_any vy vx y x W hx hy hxy.symm (by omega) (by omega) y1 x1
      have hmd := HMD.out n2 (minusS y x) (minusS_dig y1)
      rw [dval_minusS y1 x1 hxy.symm (by omega), ← sv_sub' hn (by omega), HR.out] at hmd
      generalize minusS y x = P at *
      have hS := Hold2.mk kb kr hBw (Nat.le_refl _)
      have HN := Lib.hid hn
      clear ka kb kr hBw x1 y1 HR HMD hle hcc hn
      go_wp2_with fail
      refine (hcp _ hX hY).mono ?_
      rintro e w' ⟨rfl, rfl⟩
      go_upto_region 9 with fail
      clear ca cb
      go_region_held3 (fun w' => (∀ o, w'.cell? ⟨w.heap.size + 1, o, none⟩ = #[Value.bool n2, Value.string d2, Value.int .i64 k2][o]?) ∧ Below w.heap.size w w')
        (first | exact hS.one.drew | exact hS3.one | exact hS4.one | exact ((hS4.one.set (w.heap.size + 2) 0 _ (by omega) (by omega)).set (w.heap.size + 2) 1 _ (by omega) (by omega)).set (w.heap.size + 2) 2 _ (by omega) (by omega))
        (first
          | (go_at_call 63; refine (hold_call (hpl _ (hY.later ((Below.refl _ _).drew) (Nat.le_refl _)) (hX.later ((Below.refl _ _).drew) (Nat.le_refl _))) hS.drew).mono ?_; rintro e w3 ⟨rfl, hS3⟩)
          | (go_at_call 49; refine (hold_call (hmd _) hS3).mono ?_; rintro e w4 ⟨rfl, hS4⟩; obtain ⟨_, _, q4, f4, _⟩ := id hS4))
      go_wp2
      refine bodyPost_ret (v := decE R) (by simp [results, Tryd.results27, go_sem, q4]) rfl ⟨rfl, ?_⟩
      exact ((hS4.2.2.2.2.1.setCell (p := ⟨w.heap.size + 2, 0, none⟩) (Nat.le_add_right _ _) _).setCell (p := ⟨w.heap.size + 2, 1, none⟩) (Nat.le_add_right _ _) _).setCell (p := ⟨w.heap.size + 2, 2, none⟩) (Nat.le_add_right _ _) _

theorem right_turn {neg : Bool} {ds : ByteArray} {k : Int} (h : rightB neg ds k = true) : rightB (turnB neg ds) ds k = true := by
  obtain ⟨h1, h2, h3, h4, h5, h6⟩ := of_decide_eq_true h
  refine right_yes h1 h2 h3 h4 (fun g => ?_) h6
  obtain ⟨g1, g2⟩ := g
  rcases g2 with g2 | g2
  · exact h5 ⟨g1, .inl g2⟩
  · have hz := right_zero h
    unfold turnB at g2
    have : (ds.toList == [48]) = false := by cases hq : (ds.toList == [48]) with
      | false => rfl
      | true => rw [hq] at g2; cases neg <;> exact absurd g2 (by decide)
    rw [this] at hz
    have hv : dval ds ≠ 0 := fun e => by rw [decide_eq_true e] at hz; cases hz
    apply hv
    have hs1 : ds.size = 1 := by
      by_cases e : 1 < ds.size
      · exact absurd ⟨g1, .inl e⟩ h5
      · omega
    have hg := low_get h6 0 0 (by omega) (by omega)
    have hl := low_length ds
    unfold dval
    show rowval (low ds) = 0
    match hlo : low ds with
    | [] => rfl
    | [d] =>
      rw [hlo] at hg
      simp at hg
      simp [rowval]
      omega
    | d :: e :: l =>
      rw [hlo] at hl
      simp at hl
      omega

set_option maxRecDepth 100000 in
set_option maxHeartbeats 2000000 in
theorem sub_yes {n1 : Bool} {d1 : ByteArray} {k1 : Nat} {n2 : Bool} {d2 : ByteArray} {k2 : Nat} (h1 : rightB n1 d1 k1 = true) (h2 : rightB n2 d2 k2 = true) (w : World) :
    Calls Tryd.prog 28 #[.agg #[.bool n1, .string d1, .int .i64 k1], .agg #[.bool n2, .string d2, .int .i64 k2]] w fun e w' => e = .returned (decE (addR n1 d1 k1 (turnB n2 d2) d2 k2)) ∧ Below w.heap.size w w' := by
  have hbo := fun W => both_yes h1 h2 W
  have hne := fun W => neg_yes h2 W
  have had := fun W => add_yes h1 (right_turn h2) W
  generalize addR n1 d1 k1 (turnB n2 d2) d2 k2 = R at *
  generalize turnB n2 d2 = t at *
  clear h1 h2
  go_enter Tryd.func28, Tryd.ntmps28
  go_wp2_with fail
  refine (hbo _).mono ?_
  rintro e w1 ⟨rfl, hB1⟩
  have ka := (((Blk.new w _ _).alloc _).alloc _).on hB1
  have kb := ((Blk.new' (w.alloc _) _ _ (w.heap.size + 1) (by simp)).alloc _).on hB1
  have kr := (Blk.new' ((w.alloc _).alloc _) _ _ (w.heap.size + 2) (by simp)).on hB1
  have hBw := ((((Below.refl w.heap.size w).alloc (Nat.le_refl _) _).alloc (by simp) _).alloc (by simp; omega) _).trans (hB1.mono (by simp; omega))
  have cb := kb.cell
  clear hbo hB1
  go_wp2_with fail
  refine (hne _).mono ?_
  rintro e w2 ⟨rfl, hB2⟩
  have ka := ka.on hB2
  have kr := kr.on hB2
  have hBw := hBw.trans (hB2.mono hBw.size)
  clear cb kb hne hB2
  have ca := ka.cell
  have la := ka.lt
  go_wp2_with fail
  refine (had _).mono ?_
  rintro e w3 ⟨rfl, hB3⟩
  have kr := (kr.alloc _).on hB3
  have hBw := (hBw.alloc hBw.size _).trans (hB3.mono (by have := hBw.size; simp; omega))
  clear ca la ka had hB3
  have cr := kr.cell
  have fr := kr.free
  go_wp2_with fail
  refine bodyPost_ret ?_ rfl ⟨rfl, ?_⟩
  · simp [results, Tryd.results28, go_sem, cr]
  · repeat (refine Below.setCell ?_ (by show w.heap.size ≤ w.heap.size + 2; omega) _)
    exact hBw
end Go.Proofs.YtgccppilhbannaaDoor
