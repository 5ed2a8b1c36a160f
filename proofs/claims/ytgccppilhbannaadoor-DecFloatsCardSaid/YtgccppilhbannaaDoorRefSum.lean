/-
  The walks of the reference's Turned, Compare and Add.
-/
import Derived.Test.YtgccppilhbannaaDoorAddW
import Derived.Test.YtgccppilhbannaaDoorRowW
namespace Go.Proofs.YtgccppilhbannaaDoor
open Go.RowKit Go.PlainAid

theorem hold_callE {P : Program} {f : FuncId} {args : Array Value} {B : Nat} {w0 : World} {b0 : Nat} {c0 : Array Value} {b1 : Nat} {c1 : Array Value} {W : World} {l : List Nat} (h : Calls P f args W fun e w' => ∃ v, e = .returned v ∧ IntRow W.heap.size w' v l ∧ Below W.heap.size W w') (hS : Hold2 B w0 b0 c0 b1 c1 W) :
    Calls P f args W fun e w' => ∃ v, e = .returned v ∧ Ints w' v l ∧ Hold2 B w0 b0 c0 b1 c1 w' ∧ Below W.heap.size W w' := h.mono fun _ _ ⟨v, e, hr, hB⟩ => ⟨v, e, hr.ints, hS.on hB, hB⟩

set_option maxRecDepth 100000 in
set_option maxHeartbeats 1000000 in
theorem rTurned_any (neg : Bool) (ds : ByteArray) (k : Int) (w : World) :
    Calls Tryd.prog 32 #[.agg #[.bool neg, .string ds, .int .i64 k]] w fun e w' => e = .returned (.agg #[.bool (turnB neg ds), .string ds, .int .i64 k]) ∧ Below w.heap.size w w' := by
  have hcase : (neg = true ∧ turnB neg ds = false) ∨ (neg = false ∧ (ds.toList == [48]) = true ∧ turnB neg ds = false) ∨ (neg = false ∧ (ds.toList == [48]) = false ∧ turnB neg ds = true) := by
    unfold turnB
    cases neg with
    | true => exact .inl ⟨rfl, rfl⟩
    | false =>
      cases hz : (ds.toList == [48]) with
      | true => exact .inr (.inl ⟨rfl, rfl, rfl⟩)
      | false => exact .inr (.inr ⟨rfl, rfl, rfl⟩)
  obtain ⟨t, ht⟩ : ∃ t, turnB neg ds = t := ⟨_, rfl⟩
  rw [ht] at hcase ⊢
  clear ht
  rcases hcase with ⟨rfl, rfl⟩ | ⟨rfl, hz, rfl⟩ | ⟨rfl, hz, rfl⟩
  all_goals
    go_enter Tryd.func32, Tryd.ntmps32
    go_wp2_with fail
    refine bodyPost_ret ?_ rfl ⟨rfl, ?_⟩
    · simp [results, Tryd.results32, go_sem]
    · repeat (refine Below.setCell ?_ (by first | exact Nat.le_refl _ | exact Nat.le_succ _) _)
      exact (((Below.refl _ _).alloc (Nat.le_refl _) _).alloc (by simp) _)

theorem getD_padded (l : List Nat) (k : Nat) (m : Nat) : (l ++ List.replicate k 0).getD m 0 = l.getD m 0 := by
  rw [List.getD_eq_getElem?_getD, List.getD_eq_getElem?_getD, List.getElem?_append]
  split
  · rfl
  · rename_i h
    rw [List.getElem?_eq_none (l := l) (by omega), List.getElem?_replicate]
    split <;> rfl
/-- The difference as far as the first row goes: what stands in the second one beyond is nought. -/
theorem subL_all' {a b : List Nat} (ha : ∀ d ∈ a, d < 10) (hb : ∀ d ∈ b, d < 10) (hle : rowval b ≤ rowval a) : rowval (subL a b a.length) = rowval a - rowval b := by
  have h1 := subL_val (a := a) hb a.length
  rw [List.take_of_length_le (Nat.le_refl _)] at h1
  have h2 := rowval_split b a.length
  have h3 := rowval_lt ha
  have h5 := subB_le a b a.length
  have h6 := rowval_lt (subL_lt (b := b) ha a.length)
  rw [subL_length] at h6
  have hd : rowval (b.drop a.length) = 0 := by
    by_cases h : rowval (b.drop a.length) = 0
    · exact h
    · have : 10 ^ a.length * 1 ≤ 10 ^ a.length * rowval (b.drop a.length) := Nat.mul_le_mul_left _ (by omega)
      omega
  rw [hd, Nat.mul_zero, Nat.add_zero] at h2
  rw [← h2] at h1
  rcases Nat.le_one_iff_eq_zero_or_eq_one.1 h5 with h | h
  · rw [h, Nat.mul_zero] at h1
    omega
  · rw [h, Nat.mul_one] at h1
    omega
theorem rowOf_len (ds : ByteArray) (k : Nat) : (rowOf ds k).length ≤ k + ds.size := by
  simp [rowOf, dl_length]

set_option maxRecDepth 100000 in
set_option maxHeartbeats 2000000 in
theorem rAdd_yes {n1 : Bool} {d1 : ByteArray} {k1 : Nat} {n2 : Bool} {d2 : ByteArray} {k2 : Nat} (h1 : rightB n1 d1 k1 = true) (h2 : rightB n2 d2 k2 = true) (w : World) :
    Calls Tryd.prog 31 #[.agg #[.bool n1, .string d1, .int .i64 k1], .agg #[.bool n2, .string d2, .int .i64 k2]] w fun e w' => e = .returned (decE (addR n1 d1 k1 n2 d2 k2)) ∧ Below w.heap.size w w' := by
  obtain ⟨a1, a2, a3, a4, _, a6⟩ := of_decide_eq_true h1
  obtain ⟨b1, b2, b3, b4, _, b6⟩ := of_decide_eq_true h2
  obtain ⟨R, hR⟩ : ∃ R, addR n1 d1 k1 n2 d2 k2 = R := ⟨_, rfl⟩
  rw [hR]
  unfold addR at hR
  obtain ⟨K, hK⟩ : ∃ K, max k1 k2 = K := ⟨_, rfl⟩
  have hmx : max (k1 : Int) (k2 : Int) = (K : Int) := by omega
  have A6 := Lib.hid a6; have B6 := Lib.hid b6
  clear h1 h2 a6 b6
  go_enter Tryd.func31, Tryd.ntmps31
  have ka := ((Blk.new w #[Value.bool n1, .string d1, .int .i64 k1] 23).alloc (.cells #[Value.bool n2, .string d2, .int .i64 k2] 23)).alloc (.cells #[Value.bool false, .string ⟨#[]⟩, .int .i64 0] 23)
  have kb := (Blk.new' (w.alloc (.cells #[Value.bool n1, .string d1, .int .i64 k1] 23)) #[Value.bool n2, .string d2, .int .i64 k2] 23 (w.heap.size + 1) (by simp)).alloc (.cells #[Value.bool false, .string ⟨#[]⟩, .int .i64 0] 23)
  have kr := Blk.new' ((w.alloc (.cells #[Value.bool n1, .string d1, .int .i64 k1] 23)).alloc (.cells #[Value.bool n2, .string d2, .int .i64 k2] 23)) #[Value.bool false, .string ⟨#[]⟩, .int .i64 0] 23 (w.heap.size + 2) (by simp)
  have hBw := (((Below.refl w.heap.size w).alloc (Nat.le_refl _) (.cells #[Value.bool n1, .string d1, .int .i64 k1] 23)).alloc (by simp) (.cells #[Value.bool n2, .string d2, .int .i64 k2] 23)).alloc (by simp; omega) (.cells #[Value.bool false, .string ⟨#[]⟩, .int .i64 0] 23)
  go_upto_region 2 with fail
  generalize ((w.alloc (.cells #[Value.bool n1, .string d1, .int .i64 k1] 23)).alloc (.cells #[Value.bool n2, .string d2, .int .i64 k2] 23)).alloc (.cells #[Value.bool false, .string ⟨#[]⟩, .int .i64 0] 23) = W0 at *
  have hS := Hold2.mk ka kb hBw (Nat.le_refl _)
  have hz := hBw.size
  go_region_held3 (fun w' => (∀ o, w'.cell? ⟨w.heap.size, o, none⟩ = #[Value.bool n1, Value.string d1, Value.int .i64 k1][o]?) ∧ (∀ o, w'.cell? ⟨w.heap.size + 1, o, none⟩ = #[Value.bool n2, Value.string d2, Value.int .i64 k2][o]?) ∧ Below w.heap.size w w')
    (first | exact hS4.two | exact hS3.two | exact hS.drew.two)
    (first
      | (go_at_call 20; have hS3' := hS3; refine (hold_callE (rRow_any _ _ _ _ _ (by first | exact A6.out | exact B6.out) (by omega) (by omega) (by omega)) hS3').mono ?_; rintro e w4 ⟨v4, rfl, hI4, hS4, hB4⟩)
      | (go_at_call 20; refine (hold_callE (rRow_any _ _ _ _ _ (by first | exact A6.out | exact B6.out) (by omega) (by omega) (by omega)) hS.drew).mono ?_; rintro e w3 ⟨v3, rfl, hI3, hS3, hB3⟩))
  have hX := hI3.later hB4 (Nat.le_refl _)
  have hY := hI4
  rw [show ((K : Int) - (k1 : Int)).toNat = K - k1 by omega] at hX
  rw [show ((K : Int) - (k2 : Int)).toNat = K - k2 by omega] at hY
  rw [hK, ← rowval_rowOf, ← rowval_rowOf] at hR
  have x1 := rowOf_lt A6.out (K - k1)
  have y1 := rowOf_lt B6.out (K - k2)
  have x2 : (rowOf d1 (K - k1)).length ≤ 1000 := Nat.le_trans (rowOf_len _ _) (by omega)
  have y2 : (rowOf d2 (K - k2)).length ≤ 1000 := Nat.le_trans (rowOf_len _ _) (by omega)
  clear hI3 hI4
  generalize rowOf d1 (K - k1) = x at *
  generalize rowOf d2 (K - k2) = y at *
  have HR := Lib.hid hR
  have hBw := hS4.2.2.2.2.1
  have ka := hS4.blk.1
  have kb := hS4.blk.2
  have kr := (kr.drew.on hB3).on hB4
  have ca := ka.cell
  have cb := kb.cell
  clear hR hK hS hS3 hS4 hB3 hB4 hz
  have hmd : ∀ (neg : Bool) (l : List Nat) (W : World) (v : Value), (∀ d ∈ l, d < 10) → l.length ≤ 1000000 → Ints W v l → Calls Tryd.prog 21 #[.bool neg, v, .int .i64 K] W fun e w' => e = .returned (decE (madeZ (sv neg (rowval l)) K)) ∧ Below W.heap.size W w' := fun neg l W v hl hz hv => by
    have h := rMade_ints neg v l K W hl hz hv
    rw [madeR_sv] at h
    exact h
  have HMD := Lib.hid hmd
  clear hmd
  by_cases hn : n1 = n2
  · subst hn
    have hpl := fun W (hx : Ints W v3 x) (hy : Ints W v4 y) => rPlus_any v3 v4 x y W hx hy x1 y1 (by omega) (by omega)
    have hmd := fun W v (hv : Ints W v (plusL x y)) => HMD.out n1 (plusL x y) W v (plusL_lt x y) (by have := plusL_length x y; omega) hv
    rw [plusL_val x1 y1, ← sv_add, HR.out] at hmd
    generalize plusL x y = P at *
    have hS := Hold2.mk ka kr hBw (Nat.le_refl _)
    clear ka kb kr hBw x1 y1 HR HMD
    go_upto_region 4 with fail
    clear ca cb
    go_region_held3 (fun w' => (∀ o, w'.cell? ⟨w.heap.size, o, none⟩ = #[Value.bool n1, Value.string d1, Value.int .i64 k1][o]?) ∧ Below w.heap.size w w')
      (first | exact hS.one.drew | exact hS5.one | exact hS6.one | exact ((hS6.one.set (w.heap.size + 2) 0 _ (by omega) (by omega)).set (w.heap.size + 2) 1 _ (by omega) (by omega)).set (w.heap.size + 2) 2 _ (by omega) (by omega))
      (first
        | (go_at_call 59; refine (hold_callE (hpl _ (hX.later ((Below.refl _ _).drew) (Nat.le_refl _)) (hY.later ((Below.refl _ _).drew) (Nat.le_refl _))) hS.drew).mono ?_; rintro e w5 ⟨v5, rfl, hI5, hS5, hB5⟩)
        | (go_at_call 21; refine (hold_call (hmd _ _ hI5) hS5).mono ?_; rintro e w6 ⟨rfl, hS6⟩; obtain ⟨_, _, q4, f4, _⟩ := id hS6))
    go_wp2
    refine bodyPost_ret (v := decE R) (by simp [results, Tryd.results31, go_sem, q4]) rfl ⟨rfl, ?_⟩
    exact ((hS6.2.2.2.2.1.setCell (p := ⟨w.heap.size + 2, 0, none⟩) (Nat.le_add_right _ _) _).setCell (p := ⟨w.heap.size + 2, 1, none⟩) (Nat.le_add_right _ _) _).setCell (p := ⟨w.heap.size + 2, 2, none⟩) (Nat.le_add_right _ _) _
  · have hcp := fun W (hx : Ints W v3 x) (hy : Ints W v4 y) => rLess_any v3 v4 x y W hx hy x1 y1 (by omega) (by omega)
    have hns : (n1 == n2) = false := by rw [beq_eq_false_iff_ne]; exact hn
    by_cases hle : rowval y ≤ rowval x
    · have hlb : lessB x y = false := decide_eq_false (by omega)
      rw [hlb] at hcp
      have hpl := fun W (hx : Ints W v3 x) (hy : Ints W v4 y) => rMinus_any v3 v4 x y W hx hy x1 y1 (by omega) (by omega)
      have hmd := fun W v (hv : Ints W v (subL x y x.length)) => HMD.out n1 (subL x y x.length) W v (subL_lt x1 _) (by rw [subL_length]; omega) hv
      rw [subL_all' x1 y1 hle, ← sv_sub hn hle, HR.out] at hmd
      generalize subL x y x.length = P at *
      have hS := Hold2.mk ka kr hBw (Nat.le_refl _)
      have HN := Lib.hid hn
      clear ka kb kr hBw x1 y1 HR HMD hle hlb hn
      go_wp2_with fail
      refine (hcp _ hX hY).mono ?_
      rintro e w' ⟨rfl, rfl⟩
      go_upto_region 7 with fail
      clear ca cb
      go_region_held3 (fun w' => (∀ o, w'.cell? ⟨w.heap.size, o, none⟩ = #[Value.bool n1, Value.string d1, Value.int .i64 k1][o]?) ∧ Below w.heap.size w w')
        (first | exact hS.one.drew | exact hS5.one | exact hS6.one | exact ((hS6.one.set (w.heap.size + 2) 0 _ (by omega) (by omega)).set (w.heap.size + 2) 1 _ (by omega) (by omega)).set (w.heap.size + 2) 2 _ (by omega) (by omega))
        (first
          | (go_at_call 65; refine (hold_callE (hpl _ (hX.later ((Below.refl _ _).drew) (Nat.le_refl _)) (hY.later ((Below.refl _ _).drew) (Nat.le_refl _))) hS.drew).mono ?_; rintro e w5 ⟨v5, rfl, hI5, hS5, hB5⟩)
          | (go_at_call 21; refine (hold_call (hmd _ _ hI5) hS5).mono ?_; rintro e w6 ⟨rfl, hS6⟩; obtain ⟨_, _, q4, f4, _⟩ := id hS6))
      go_wp2
      refine bodyPost_ret (v := decE R) (by simp [results, Tryd.results31, go_sem, q4]) rfl ⟨rfl, ?_⟩
      exact ((hS6.2.2.2.2.1.setCell (p := ⟨w.heap.size + 2, 0, none⟩) (Nat.le_add_right _ _) _).setCell (p := ⟨w.heap.size + 2, 1, none⟩) (Nat.le_add_right _ _) _).setCell (p := ⟨w.heap.size + 2, 2, none⟩) (Nat.le_add_right _ _) _
    · have hlb : lessB x y = true := decide_eq_true (by omega)
      rw [hlb] at hcp
      have hpl := fun W (hx : Ints W v4 y) (hy : Ints W v3 x) => rMinus_any v4 v3 y x W hx hy y1 x1 (by omega) (by omega)
      have hmd := fun W v (hv : Ints W v (subL y x y.length)) => HMD.out n2 (subL y x y.length) W v (subL_lt y1 _) (by rw [subL_length]; omega) hv
      rw [subL_all' y1 x1 (by omega), ← sv_sub' hn (by omega), HR.out] at hmd
      generalize subL y x y.length = P at *
      have hS := Hold2.mk kb kr hBw (Nat.le_refl _)
      have HN := Lib.hid hn
      clear ka kb kr hBw x1 y1 HR HMD hle hlb hn
      go_wp2_with fail
      refine (hcp _ hX hY).mono ?_
      rintro e w' ⟨rfl, rfl⟩
      go_upto_region 6 with fail
      clear ca cb
      go_region_held3 (fun w' => (∀ o, w'.cell? ⟨w.heap.size + 1, o, none⟩ = #[Value.bool n2, Value.string d2, Value.int .i64 k2][o]?) ∧ Below w.heap.size w w')
        (first | exact hS.one.drew | exact hS5.one | exact hS6.one | exact ((hS6.one.set (w.heap.size + 2) 0 _ (by omega) (by omega)).set (w.heap.size + 2) 1 _ (by omega) (by omega)).set (w.heap.size + 2) 2 _ (by omega) (by omega))
        (first
          | (go_at_call 65; refine (hold_callE (hpl _ (hY.later ((Below.refl _ _).drew) (Nat.le_refl _)) (hX.later ((Below.refl _ _).drew) (Nat.le_refl _))) hS.drew).mono ?_; rintro e w5 ⟨v5, rfl, hI5, hS5, hB5⟩)
          | (go_at_call 21; refine (hold_call (hmd _ _ hI5) hS5).mono ?_; rintro e w6 ⟨rfl, hS6⟩; obtain ⟨_, _, q4, f4, _⟩ := id hS6))
      go_wp2
      refine bodyPost_ret (v := decE R) (by simp [results, Tryd.results31, go_sem, q4]) rfl ⟨rfl, ?_⟩
      exact ((hS6.2.2.2.2.1.setCell (p := ⟨w.heap.size + 2, 0, none⟩) (Nat.le_add_right _ _) _).setCell (p := ⟨w.heap.size + 2, 1, none⟩) (Nat.le_add_right _ _) _).setCell (p := ⟨w.heap.size + 2, 2, none⟩) (Nat.le_add_right _ _) _

theorem cmpD_same {n : Bool} {X Y : Nat} : cmpZ (sv n X) (sv n Y) = if n = true then cmpN Y X else cmpN X Y := by
  unfold cmpZ cmpN
  cases n
  · simp [sv_false]
  · simp [sv_true]
set_option maxRecDepth 100000 in
set_option maxHeartbeats 2000000 in
theorem rCompare_yes {n1 : Bool} {d1 : ByteArray} {k1 : Nat} {n2 : Bool} {d2 : ByteArray} {k2 : Nat} (h1 : rightB n1 d1 k1 = true) (h2 : rightB n2 d2 k2 = true) (w : World) :
    Calls Tryd.prog 34 #[.agg #[.bool n1, .string d1, .int .i64 k1], .agg #[.bool n2, .string d2, .int .i64 k2]] w fun e w' => e = .returned (.int .i64 (cmpD n1 d1 k1 n2 d2 k2)) ∧ Below w.heap.size w w' := by
  have hz1 : n1 = true → dval d1 ≠ 0 := neg_nz h1
  have hz2 : n2 = true → dval d2 ≠ 0 := neg_nz h2
  have HZ1 := Lib.hid hz1; have HZ2 := Lib.hid hz2
  clear hz1 hz2
  obtain ⟨a1, a2, a3, a4, _, a6⟩ := of_decide_eq_true h1
  obtain ⟨b1, b2, b3, b4, _, b6⟩ := of_decide_eq_true h2
  obtain ⟨R, hR⟩ : ∃ R, cmpD n1 d1 k1 n2 d2 k2 = R := ⟨_, rfl⟩
  rw [hR]
  unfold cmpD at hR
  obtain ⟨K, hK⟩ : ∃ K, max k1 k2 = K := ⟨_, rfl⟩
  have hmx : max (k1 : Int) (k2 : Int) = (K : Int) := by omega
  have A6 := Lib.hid a6; have B6 := Lib.hid b6
  clear h1 h2 a6 b6
  go_enter Tryd.func34, Tryd.ntmps34
  have ka := (Blk.new w #[Value.bool n1, .string d1, .int .i64 k1] 23).alloc (.cells #[Value.bool n2, .string d2, .int .i64 k2] 23)
  have kb := Blk.new' (w.alloc (.cells #[Value.bool n1, .string d1, .int .i64 k1] 23)) #[Value.bool n2, .string d2, .int .i64 k2] 23 (w.heap.size + 1) (by simp)
  have hBw := ((Below.refl w.heap.size w).alloc (Nat.le_refl _) (.cells #[Value.bool n1, .string d1, .int .i64 k1] 23)).alloc (by simp) (.cells #[Value.bool n2, .string d2, .int .i64 k2] 23)
  go_upto_region 2 with fail
  generalize (w.alloc (.cells #[Value.bool n1, .string d1, .int .i64 k1] 23)).alloc (.cells #[Value.bool n2, .string d2, .int .i64 k2] 23) = W0 at *
  have hS := Hold2.mk ka kb hBw (Nat.le_refl _)
  have hz := hBw.size
  go_region_held3 (fun w' => (∀ o, w'.cell? ⟨w.heap.size, o, none⟩ = #[Value.bool n1, Value.string d1, Value.int .i64 k1][o]?) ∧ (∀ o, w'.cell? ⟨w.heap.size + 1, o, none⟩ = #[Value.bool n2, Value.string d2, Value.int .i64 k2][o]?) ∧ Below w.heap.size w w')
    (first | exact hS4.two | exact hS3.two | exact hS.drew.two)
    (first
      | (go_at_call 20; have hS3' := hS3; refine (hold_callE (rRow_any _ _ _ _ _ (by first | exact A6.out | exact B6.out) (by omega) (by omega) (by omega)) hS3').mono ?_; rintro e w4 ⟨v4, rfl, hI4, hS4, hB4⟩)
      | (go_at_call 20; refine (hold_callE (rRow_any _ _ _ _ _ (by first | exact A6.out | exact B6.out) (by omega) (by omega) (by omega)) hS.drew).mono ?_; rintro e w3 ⟨v3, rfl, hI3, hS3, hB3⟩))
  have hX := hI3.later hB4 (Nat.le_refl _)
  have hY := hI4
  rw [show ((K : Int) - (k1 : Int)).toNat = K - k1 by omega] at hX
  rw [show ((K : Int) - (k2 : Int)).toNat = K - k2 by omega] at hY
  rw [hK, ← rowval_rowOf, ← rowval_rowOf] at hR
  have x1 := rowOf_lt A6.out (K - k1)
  have y1 := rowOf_lt B6.out (K - k2)
  have x2 : (rowOf d1 (K - k1)).length ≤ 1000 := Nat.le_trans (rowOf_len _ _) (by omega)
  have y2 : (rowOf d2 (K - k2)).length ≤ 1000 := Nat.le_trans (rowOf_len _ _) (by omega)
  have hzx : n1 = true → rowval (rowOf d1 (K - k1)) ≠ 0 := fun h e => by
    rw [rowval_rowOf] at e
    rcases Nat.mul_eq_zero.1 e with e | e
    · exact HZ1.out h e
    · have := Nat.pow_pos (n := K - k1) (show 0 < 10 by decide); omega
  have hzy : n2 = true → rowval (rowOf d2 (K - k2)) ≠ 0 := fun h e => by
    rw [rowval_rowOf] at e
    rcases Nat.mul_eq_zero.1 e with e | e
    · exact HZ2.out h e
    · have := Nat.pow_pos (n := K - k2) (show 0 < 10 by decide); omega
  clear hI3 hI4
  generalize rowOf d1 (K - k1) = x at *
  generalize rowOf d2 (K - k2) = y at *
  have HR := Lib.hid hR
  have hBw := hS4.2.2.2.2.1
  have ka := hS4.blk.1
  have kb := hS4.blk.2
  have ca := ka.cell
  have cb := kb.cell
  clear hR hK hS hS3 hS4 hB3 hB4 hz
  have hres : (n1 = true → n2 = false → R = -1) ∧ (n1 = false → n2 = true → R = 1) ∧ (n1 = n2 → R = if n1 = true then cmpN (rowval y) (rowval x) else cmpN (rowval x) (rowval y)) := by
    rw [← HR.out]
    refine ⟨fun e1 e2 => ?_, fun e1 e2 => ?_, fun e => ?_⟩
    · have := hzx e1
      subst e1; subst e2
      unfold cmpZ
      rw [sv_true, sv_false, if_pos (by omega)]
    · have := hzy e2
      subst e1; subst e2
      unfold cmpZ
      rw [sv_true, sv_false, if_neg (by omega), if_pos (by omega)]
    · subst e
      exact cmpD_same
  have HX := Lib.hid hX; have HY := Lib.hid hY
  have hxy := rLess_any v3 v4 x y w4 hX hY x1 y1 (by omega) (by omega)
  have hyx := rLess_any v4 v3 y x w4 hY hX y1 x1 (by omega) (by omega)
  clear hzx hzy hX hY HR HX HY x1 y1 ka kb
  have hcs : ∀ (a b : List Nat), (lessB a b = true ∧ cmpN (rowval a) (rowval b) = -1) ∨ (lessB a b = false ∧ lessB b a = true ∧ cmpN (rowval a) (rowval b) = 1) ∨ (lessB a b = false ∧ lessB b a = false ∧ cmpN (rowval a) (rowval b) = 0) := fun a b => by
    unfold lessB
    rcases cmpN_cases (rowval a) (rowval b) with ⟨g, e⟩ | ⟨g, e⟩ | ⟨g, e⟩
    · exact .inr (.inl ⟨decide_eq_false (by omega), decide_eq_true (by omega), e⟩)
    · exact .inr (.inr ⟨decide_eq_false (by omega), decide_eq_false (by omega), e⟩)
    · exact .inl ⟨decide_eq_true (by omega), e⟩
  have HCS := Lib.hid hcs
  clear hcs
  cases n1 <;> cases n2
  · have hr := hres.2.2 rfl
    have HRR := Lib.hid hr
    clear hr hres
    rcases HCS.out x y with ⟨e1, e2⟩ | ⟨e1, e2, e3⟩ | ⟨e1, e2, e3⟩
    · rw [e1] at hxy
      have HF := Lib.hid (HRR.out.trans e2)
      clear e1 e2 hyx
      go_wp2_with fail
      refine hxy.mono ?_
      rintro e w' ⟨rfl, rfl⟩
      go_wp2_with fail
      go_ret
      exact ⟨ret_int HF.out.symm, hBw⟩
    · rw [e1] at hxy
      rw [e2] at hyx
      have HF := Lib.hid (HRR.out.trans e3)
      clear e1 e2 e3
      go_wp2_with fail
      refine hxy.mono ?_
      rintro e w' ⟨rfl, rfl⟩
      go_wp2_with fail
      refine hyx.mono ?_
      rintro e w' ⟨rfl, rfl⟩
      go_wp2_with fail
      go_ret
      exact ⟨ret_int HF.out.symm, hBw⟩
    · rw [e1] at hxy
      rw [e2] at hyx
      have HF := Lib.hid (HRR.out.trans e3)
      clear e1 e2 e3
      go_wp2_with fail
      refine hxy.mono ?_
      rintro e w' ⟨rfl, rfl⟩
      go_wp2_with fail
      refine hyx.mono ?_
      rintro e w' ⟨rfl, rfl⟩
      go_wp2_with fail
      go_ret
      exact ⟨ret_int HF.out.symm, hBw⟩
  · have HF := Lib.hid (hres.2.1 rfl rfl)
    clear hres hxy hyx
    go_wp2_with fail
    go_ret
    exact ⟨ret_int HF.out.symm, hBw⟩
  · have HF := Lib.hid (hres.1 rfl rfl)
    clear hres hxy hyx
    go_wp2_with fail
    go_ret
    exact ⟨ret_int HF.out.symm, hBw⟩
  · have hr := hres.2.2 rfl
    have HRR := Lib.hid hr
    clear hr hres
    rcases HCS.out y x with ⟨e1, e2⟩ | ⟨e1, e2, e3⟩ | ⟨e1, e2, e3⟩
    · rw [e1] at hyx
      have HF := Lib.hid (HRR.out.trans e2)
      clear e1 e2 hxy
      go_wp2_with fail
      refine hyx.mono ?_
      rintro e w' ⟨rfl, rfl⟩
      go_wp2_with fail
      go_ret
      exact ⟨ret_int HF.out.symm, hBw⟩
    · rw [e1] at hyx
      rw [e2] at hxy
      have HF := Lib.hid (HRR.out.trans e3)
      clear e1 e2 e3
      go_wp2_with fail
      refine hyx.mono ?_
      rintro e w' ⟨rfl, rfl⟩
      go_wp2_with fail
      refine hxy.mono ?_
      rintro e w' ⟨rfl, rfl⟩
      go_wp2_with fail
      go_ret
      exact ⟨ret_int HF.out.symm, hBw⟩
    · rw [e1] at hyx
      rw [e2] at hxy
      have HF := Lib.hid (HRR.out.trans e3)
      clear e1 e2 e3
      go_wp2_with fail
      refine hyx.mono ?_
      rintro e w' ⟨rfl, rfl⟩
      go_wp2_with fail
      refine hxy.mono ?_
      rintro e w' ⟨rfl, rfl⟩
      go_wp2_with fail
      go_ret
      exact ⟨ret_int HF.out.symm, hBw⟩
end Go.Proofs.YtgccppilhbannaaDoor
