/-
  The walk of the reference's Mul.
-/
import Derived.Test.YtgccppilhbannaaDoorRefSum
import Derived.Test.YtgccppilhbannaaDoorMulW
namespace Go.Proofs.YtgccppilhbannaaDoor
open Go.RowKit Go.PlainAid

/-- A digit of the product's row is carried. -/
theorem carry_low {R : List Nat} {m : Nat} (h : m + 1 < R.length) : rowval ((R.set (m + 1) (R.getD (m + 1) 0 + R.getD m 0 / 10)).set m (R.getD m 0 % 10)) = rowval R := by
  have h1 := rowval_set R (m + 1) (R.getD (m + 1) 0 + R.getD m 0 / 10) h
  have h2 := rowval_set (R.set (m + 1) (R.getD (m + 1) 0 + R.getD m 0 / 10)) m (R.getD m 0 % 10) (by rw [List.length_set]; omega)
  rw [getD_set _ _ _ _ h, if_neg (by omega)] at h2
  rw [Nat.pow_succ, Nat.mul_add] at h1
  have e1 : 10 ^ m * 10 * (R.getD m 0 / 10) + 10 ^ m * (R.getD m 0 % 10) = 10 ^ m * R.getD m 0 := by
    rw [Nat.mul_assoc, ← Nat.mul_add]
    congr 1
    omega
  omega
/-- Lower places first: a product is added. -/
theorem mul_low {R x y : List Nat} {i k V : Nat} (h : i + k < R.length) (hV : rowval R = rowval (x.take i) * V + x.getD i 0 * 10 ^ i * rowval (y.take k)) : rowval (R.set (i + k) (R.getD (i + k) 0 + x.getD i 0 * y.getD k 0)) = rowval (x.take i) * V + x.getD i 0 * 10 ^ i * rowval (y.take (k + 1)) := by
  rw [mul_step h hV, rowval_take_succ, Nat.mul_comm (10 ^ k)]

set_option maxRecDepth 100000 in
set_option maxHeartbeats 4000000 in
theorem rMul_yes {n1 : Bool} {d1 : ByteArray} {k1 : Nat} {n2 : Bool} {d2 : ByteArray} {k2 : Nat} (h1 : rightB n1 d1 k1 = true) (h2 : rightB n2 d2 k2 = true) (w : World) :
    Calls Tryd.prog 33 #[.agg #[.bool n1, .string d1, .int .i64 k1], .agg #[.bool n2, .string d2, .int .i64 k2]] w fun e w' => e = .returned (decE (mulR n1 d1 k1 n2 d2 k2)) ∧ Below w.heap.size w w' := by
  obtain ⟨a1, a2, a3, a4, _, a6⟩ := of_decide_eq_true h1
  obtain ⟨b1, b2, b3, b4, _, b6⟩ := of_decide_eq_true h2
  have A6 := Lib.hid a6; have B6 := Lib.hid b6
  clear h1 h2 a6 b6
  obtain ⟨M, hM⟩ : ∃ M, mulR n1 d1 k1 n2 d2 k2 = M := ⟨_, rfl⟩
  rw [hM]
  unfold mulR at hM
  go_enter Tryd.func33, Tryd.ntmps33
  have ka := ((Blk.new w #[Value.bool n1, .string d1, .int .i64 k1] 23).alloc (.cells #[Value.bool n2, .string d2, .int .i64 k2] 23)).alloc (.cells #[Value.bool false, .string ⟨#[]⟩, .int .i64 0] 23)
  have kb := (Blk.new' (w.alloc (.cells #[Value.bool n1, .string d1, .int .i64 k1] 23)) #[Value.bool n2, .string d2, .int .i64 k2] 23 (w.heap.size + 1) (by simp)).alloc (.cells #[Value.bool false, .string ⟨#[]⟩, .int .i64 0] 23)
  have kr := Blk.new' ((w.alloc (.cells #[Value.bool n1, .string d1, .int .i64 k1] 23)).alloc (.cells #[Value.bool n2, .string d2, .int .i64 k2] 23)) #[Value.bool false, .string ⟨#[]⟩, .int .i64 0] 23 (w.heap.size + 2) (by simp)
  have hBw := (((Below.refl w.heap.size w).alloc (Nat.le_refl _) (.cells #[Value.bool n1, .string d1, .int .i64 k1] 23)).alloc (by simp) (.cells #[Value.bool n2, .string d2, .int .i64 k2] 23)).alloc (by simp; omega) (.cells #[Value.bool false, .string ⟨#[]⟩, .int .i64 0] 23)
  go_upto_region 1 with fail
  generalize ((w.alloc (.cells #[Value.bool n1, .string d1, .int .i64 k1] 23)).alloc (.cells #[Value.bool n2, .string d2, .int .i64 k2] 23)).alloc (.cells #[Value.bool false, .string ⟨#[]⟩, .int .i64 0] 23) = W0 at *
  have hS := Hold2.mk ka kb hBw (Nat.le_refl _)
  have hz := hBw.size
  go_region_held3 (fun w' => (∀ o, w'.cell? ⟨w.heap.size, o, none⟩ = #[Value.bool n1, Value.string d1, Value.int .i64 k1][o]?) ∧ (∀ o, w'.cell? ⟨w.heap.size + 1, o, none⟩ = #[Value.bool n2, Value.string d2, Value.int .i64 k2][o]?) ∧ Below w.heap.size w w')
    (first | exact hS4.two | exact hS3.two | exact hS.drew.two)
    (first
      | (go_at_call 20; have hS3' := hS3; refine (hold_callE (rRow_any _ _ _ _ _ (by first | exact A6.out | exact B6.out) (by omega) (by omega) (by omega)) hS3').mono ?_; rintro e w4 ⟨v4, rfl, hI4, hS4, hB4⟩)
      | (go_at_call 20; refine (hold_callE (rRow_any _ _ _ _ _ (by first | exact A6.out | exact B6.out) (by omega) (by omega) (by omega)) hS.drew).mono ?_; rintro e w3 ⟨v3, rfl, hI3, hS3, hB3⟩))
  have hX := hI3.later hB4 (Nat.le_refl _)
  have hY := hI4
  rw [show ((k1 : Int) - (k1 : Int)).toNat = 0 by omega] at hX
  rw [show ((k2 : Int) - (k2 : Int)).toNat = 0 by omega] at hY
  have ex : rowval (rowOf d1 0) = dval d1 := by rw [rowval_rowOf]; simp
  have ey : rowval (rowOf d2 0) = dval d2 := by rw [rowval_rowOf]; simp
  have x1 := rowOf_lt A6.out 0
  have y1 := rowOf_lt B6.out 0
  have x2 : (rowOf d1 0).length = d1.size := by rw [rowOf_length]; omega
  have y2 : (rowOf d2 0).length = d2.size := by rw [rowOf_length]; omega
  rw [← ex, ← ey] at hM
  clear hI3 hI4 ex ey
  generalize rowOf d1 0 = x at *
  generalize rowOf d2 0 = y at *
  have HM := Lib.hid hM
  have hBw := hS4.2.2.2.2.1
  have ka := hS4.blk.1
  have kb := hS4.blk.2
  have kr := (kr.drew.on hB3).on hB4
  clear hM hS hS3 hS4 hB3 hB4 hz hS3'
  obtain ⟨gx, ox, cx, hvx, hgx, hcx, hmx, hx⟩ : ∃ g o cap, v3 = .slice (some ⟨g, o, none⟩) x.length cap ∧ g < w4.heap.size ∧ x.length ≤ cap ∧ cap ≤ maxLen ∧ ∀ j, j < x.length → w4.cell? ⟨g, o + j, none⟩ = some (.int .i64 ((x.getD j 0 : Nat) : Int)) := by
    rcases hX with ⟨e, _⟩ | ⟨g, o, cap, e, a, b, c, d⟩
    · rw [e] at x2; simp at x2; omega
    · exact ⟨g, o, cap, e, a, b, c, fun j hj => by rw [d j hj, List.getD_eq_getElem?_getD, List.getElem?_eq_getElem hj]; rfl⟩
  obtain ⟨gy, oy, cy, hvy, hgy, hcy, hmy, hy⟩ : ∃ g o cap, v4 = .slice (some ⟨g, o, none⟩) y.length cap ∧ g < w4.heap.size ∧ y.length ≤ cap ∧ cap ≤ maxLen ∧ ∀ j, j < y.length → w4.cell? ⟨g, o + j, none⟩ = some (.int .i64 ((y.getD j 0 : Nat) : Int)) := by
    rcases hY with ⟨e, _⟩ | ⟨g, o, cap, e, a, b, c, d⟩
    · rw [e] at y2; simp at y2; omega
    · exact ⟨g, o, cap, e, a, b, c, fun j hj => by rw [d j hj, List.getD_eq_getElem?_getD, List.getElem?_eq_getElem hj]; rfl⟩
  subst hvx
  subst hvy
  have HX := Lib.hid hx; have HY := Lib.hid hy
  have HX9 := Lib.hid (getD_lt x1); have HY9 := Lib.hid (getD_lt y1)
  have TX := rowval_lt x1
  have TY := rowval_lt y1
  obtain ⟨s1, hs1⟩ : ∃ s, x.length = s := ⟨_, rfl⟩
  obtain ⟨s2, hs2⟩ : ∃ s, y.length = s := ⟨_, rfl⟩
  have l1 : s1 ≤ 400 := by omega
  have l2 : s2 ≤ 400 := by omega
  have l3 : 1 ≤ s1 := by omega
  have l4 : 1 ≤ s2 := by omega
  obtain ⟨n, hn⟩ : ∃ n, s1 + s2 + 1 = n := ⟨_, rfl⟩
  rw [hs1] at HX hcx TX ⊢
  rw [hs2] at HY hcy TY ⊢
  have hTT : rowval x * rowval y < 10 ^ (n - 1) := by
    rw [show n - 1 = s1 + s2 by omega, Nat.pow_add]
    exact Nat.mul_lt_mul_of_lt_of_le TX (Nat.le_of_lt TY) (Nat.pow_pos (by decide))
  have HTT := Lib.hid hTT
  have HL1 := Lib.hid hs1; have HL2 := Lib.hid hs2; have HN := Lib.hid hn
  have n8 : n ≤ 801 := by omega
  have n0 : 1 ≤ n := by omega
  have e1 : IntKind.i64.wrap ((s1 : Int) + s2) = (s1 : Int) + s2 := IntWalk.i64_in _ (by omega)
  have e2 : IntKind.i64.wrap ((s1 : Int) + s2 + 1) = (n : Int) := by rw [show (s1 : Int) + s2 + 1 = n by omega]; exact IntWalk.i64_in _ (by omega)
  have hmk : ∀ W : World, (Instr.makeSlice 40 (.int .i64 (n : Int)) (.int .i64 (n : Int))).run Tryd.prog W = .ok (.slice (some ⟨W.heap.size, 0, none⟩) n n) (W.alloc (.cells (madeCells #[.int .i64 0] n) 3)) := fun W => run_make_row' (P := Tryd.prog) 40 3 (.int .i64 0) 8 Tryd.underlying40 infoInt rfl .i64 .i64 n (by omega) (by omega) W
  have hO : Sums (w4.alloc (.cells (madeCells #[.int .i64 0] n) 3)) w4.heap.size n (fun p => (List.replicate n 0).getD p 0) := fun j hj => by
    refine ⟨?_, ?_⟩
    · rw [World.cell?_alloc_mark, ← Array.getElem?_toList, toList_madeCells_one, List.getElem?_replicate, if_pos hj]
      simp only [List.getD_eq_getElem?_getD, List.getElem?_replicate]
      split <;> rfl
    · rw [World.frozen?_alloc_mark]; simp
  have hB0 : Below w4.heap.size w4 (w4.alloc (.cells (madeCells #[.int .i64 0] n) 3)) := (Below.refl _ _).alloc (Nat.le_refl _) _
  have ca := ka.cell
  have cb := kb.cell
  have la := ka.lt
  have lb := kb.lt
  clear hX hY hx hy x1 y1 TX TY hTT hs1 hs2 hn x2 y2
  go_wp2_with fail
  clear hmk ca cb e1 e2
  generalize w4.alloc (.cells (madeCells #[.int .i64 0] n) 3) = w5 at *
  have HO := Lib.hid hO
  clear hO
  go_loopg [9] s1 (fun g si wr => ∃ (i : Nat) (R : List Nat), i + g = s1 ∧ si = .int .i64 (i : Int) ∧ R.length = n ∧ Sums wr w4.heap.size n (fun p => R.getD p 0) ∧ rowval R = rowval (x.take i) * rowval y ∧ (∀ j, R.getD j 0 ≤ 81 * (i * 400)) ∧ Below w4.heap.size w4 wr)
  case atStart => exact ⟨0, List.replicate n 0, by omega, rfl, List.length_replicate, HO.out, by rw [rowval_zeros]; simp [rowval], fun j => by rw [List.getD_eq_getElem?_getD, List.getElem?_replicate]; split <;> simp, hB0⟩
  case round =>
    obtain ⟨i, R, hi, rfl, hRl, hS, hV, hbd, hB⟩ := hrel
    have HV := Lib.hid hV; have HBD := Lib.hid hbd; have HRL := Lib.hid hRl; have HS := Lib.hid hS
    clear hV hbd hRl hS
    cases gk with
    | zero =>
      have hgo : ¬ i < s1 := by omega
      have hil : i = s1 := by omega
      go_wp2_with fail
      have hV := HV.out
      rw [hil, show x.take s1 = x from List.take_of_length_le (by rw [HL1.out]; omega)] at hV
      obtain ⟨T, hT⟩ : ∃ T, rowval x * rowval y = T := ⟨_, rfl⟩
      have hTT := HTT.out
      rw [hT] at hV hTT
      have hM := HM.out
      rw [hT] at hM
      have HVT := Lib.hid hV; have HTT2 := Lib.hid hTT; have HM2 := Lib.hid hM
      have hbd : ∀ j, R.getD j 0 ≤ 12960000 := fun j => Nat.le_trans (HBD.out j) (by omega)
      have HBD2 := Lib.hid hbd
      clear hV hTT hM hbd hT hil
      go_loopg [11] (n - 1) (fun g sm wq => ∃ (m : Nat) (R' : List Nat), m + 1 + g = n ∧ sm = .int .i64 (m : Int) ∧ R'.length = n ∧ Sums wq w4.heap.size n (fun p => R'.getD p 0) ∧ rowval R' = T ∧ (∀ j, j < m → R'.getD j 0 < 10) ∧ (∀ j, R'.getD j 0 ≤ 25920000) ∧ (∀ j, m < j → R'.getD j 0 ≤ 12960000) ∧ Below w4.heap.size w4 wq)
      case atStart => exact ⟨0, R, by omega, rfl, HRL.out, HS.out, HVT.out, fun j hj => absurd hj (by omega), fun j => Nat.le_trans (HBD2.out j) (by omega), fun j _ => HBD2.out j, hB⟩
      case round =>
        obtain ⟨m, R', hm, rfl, hRl, hS, hV, h9, hb2, hb1, hB⟩ := hrel
        have HV' := Lib.hid hV; have H9 := Lib.hid h9; have HRL' := Lib.hid hRl; have HB2 := Lib.hid hb2; have HB1 := Lib.hid hb1
        clear hV h9 hRl hb2 hb1
        cases gk with
        | zero =>
          have hmn : ¬ (m : Int) + 1 < n := by omega
          have HM0 := Lib.hid hm
          have i1 : IntKind.i64.wrap ((m : Int) + 1) = (m : Int) + 1 := IntWalk.i64_in _ (by omega)
          have hlast : R'.getD m 0 = 0 := by
            have h1 := getD_le R' m
            rw [HV'.out] at h1
            have h2 := HTT2.out
            rw [show n - 1 = m by omega] at h2
            apply Classical.byContradiction
            intro e
            have : 10 ^ m * 1 ≤ 10 ^ m * R'.getD m 0 := Nat.mul_le_mul_left _ (by omega)
            omega
          have h10 : ∀ d ∈ R', d < 10 := fun d hd => by
            obtain ⟨j, hj, e⟩ := List.getElem_of_mem hd
            have hg : R'.getD j 0 = d := by rw [List.getD_eq_getElem?_getD, List.getElem?_eq_getElem hj, e]; rfl
            by_cases hjm : j < m
            · rw [← hg]; exact H9.out j hjm
            · have : j = m := by have := HRL'.out; omega
              rw [← hg, this, hlast]; decide
          have hI : Ints wr (.slice (some ⟨w4.heap.size, 0, none⟩) n n) R' := .inr ⟨w4.heap.size, 0, n, by rw [HRL'.out], World.block_lt_of_cell? wr ⟨w4.heap.size, 0, none⟩ (hS 0 (by omega)).1, by rw [HRL'.out]; exact Nat.le_refl _, by unfold maxLen; omega, fun j hj => by
            rw [Nat.zero_add, (hS j (by rw [← HRL'.out]; exact hj)).1]
            show some (Value.int _ ((R'.getD j 0 : Nat) : Int)) = _
            rw [List.getD_eq_getElem?_getD, List.getElem?_eq_getElem hj]
            rfl⟩
          have hmd := fun W (h : Ints W (.slice (some ⟨w4.heap.size, 0, none⟩) n n) R') => rMade_ints (n1 != n2) _ R' ((k1 : Int) + k2) W h10 (by rw [HRL'.out]; omega) h
          rw [HV'.out, HM2.out] at hmd
          have i2 : IntKind.i64.wrap ((k1 : Int) + k2) = (k1 : Int) + k2 := IntWalk.i64_in _ (by omega)
          have ca := (ka.later hB la).cell
          have cb := (kb.later hB lb).cell
          have lr := kr.lt
          have kr := kr.later hB lr
          have hBw2 := hBw.trans (hB.mono hBw.size)
          clear hm hlast h10 hS
          go_wp2_with fail
          refine (hmd _ hI).mono ?_
          rintro e w7 ⟨rfl, hB7⟩
          have kr := kr.on hB7
          have hBw3 := hBw2.trans (hB7.mono hBw2.size)
          have cr := kr.cell
          have fr := kr.free
          clear ca cb hmd hI
          go_wp2_with fail
          refine bodyPost_ret (v := decE M) ?_ rfl ⟨rfl, ?_⟩
          · simp [results, Tryd.results33, go_sem, cr]
          · repeat (refine Below.setCell ?_ (by show w.heap.size ≤ w.heap.size + 2; omega) _)
            exact hBw3
        | succ g =>
          have hmn : (m : Int) + 1 < n := by omega
          have hm1 : m + 1 < n := by omega
          have HM0 := Lib.hid hm
          obtain ⟨c1, f1⟩ := hS m (by omega)
          obtain ⟨c2, f2⟩ := hS (m + 1) hm1
          change _ = some (Value.int _ ((R'.getD m 0 : Nat) : Int)) at c1
          change _ = some (Value.int _ ((R'.getD (m + 1) 0 : Nat) : Int)) at c2
          have hcl := carry_low (R := R') (m := m) (by rw [HRL'.out]; exact hm1)
          rw [HV'.out] at hcl
          have hr2 := HB2.out m
          have hr1 := HB1.out (m + 1) (by omega)
          obtain ⟨r, hr⟩ : ∃ r, R'.getD m 0 = r := ⟨_, rfl⟩
          obtain ⟨r1, hr1e⟩ : ∃ r, R'.getD (m + 1) 0 = r := ⟨_, rfl⟩
          rw [hr] at c1 hcl hr2
          rw [hr1e] at c2 hcl hr1
          obtain ⟨q, hq⟩ : ∃ q, r / 10 = q := ⟨_, rfl⟩
          obtain ⟨d, hd⟩ : ∃ d, r % 10 = d := ⟨_, rfl⟩
          rw [hq, hd] at hcl
          obtain ⟨v, hv⟩ : ∃ v, r1 + q = v := ⟨_, rfl⟩
          rw [hv] at hcl
          have hsn1 := fun W (h : Sums W w4.heap.size n (fun p => R'.getD p 0)) => h.set (g := fun j => (R'.set (m + 1) v).getD j 0) (m + 1) v hm1 (fun j hj => by
            show (R'.set (m + 1) v).getD j 0 = _
            rw [getD_set _ _ _ _ (by rw [HRL'.out]; omega)])
          have hsn2 := fun W (h : Sums W w4.heap.size n (fun p => (R'.set (m + 1) v).getD p 0)) => h.set (g := fun j => ((R'.set (m + 1) v).set m d).getD j 0) m d (by omega) (fun j hj => by
            show ((R'.set (m + 1) v).set m d).getD j 0 = _
            rw [getD_set _ _ _ _ (by rw [List.length_set, HRL'.out]; omega)])
          have hb2n : ∀ j, ((R'.set (m + 1) v).set m d).getD j 0 ≤ 25920000 := fun j => by
            rw [getD_set _ _ _ _ (by rw [List.length_set, HRL'.out]; omega), getD_set _ _ _ _ (by rw [HRL'.out]; omega)]
            have := HB2.out j
            split
            · omega
            · split <;> omega
          have hb1n : ∀ j, m + 1 < j → ((R'.set (m + 1) v).set m d).getD j 0 ≤ 12960000 := fun j hj => by
            rw [getD_set _ _ _ _ (by rw [List.length_set, HRL'.out]; omega), getD_set _ _ _ _ (by rw [HRL'.out]; omega), if_neg (by omega), if_neg (by omega)]
            exact HB1.out j (by omega)
          have h9n : ∀ j, j < m + 1 → ((R'.set (m + 1) v).set m d).getD j 0 < 10 := fun j hj => by
            rw [getD_set _ _ _ _ (by rw [List.length_set, HRL'.out]; omega), getD_set _ _ _ _ (by rw [HRL'.out]; omega)]
            by_cases e : j = m
            · rw [if_pos e]; omega
            · rw [if_neg e, if_neg (by omega)]
              exact H9.out j (by omega)
          have HCL := Lib.hid hcl; have HSN1 := Lib.hid hsn1; have HSN2 := Lib.hid hsn2; have HB2N := Lib.hid hb2n; have HB1N := Lib.hid hb1n; have H9N := Lib.hid h9n
          have i1 : IntKind.i64.wrap ((m : Int) + 1) = (m : Int) + 1 := IntWalk.i64_in _ (by omega)
          have g1 : (0 : Int) ≤ (m : Int) + 1 := by omega
          have g3 : ((m : Int) + 1).toNat = m + 1 := by omega
          have i2 : (r : Int) / 10 = q := by omega
          have i2' : (r : Int) % 10 = d := by omega
          have i3 : IntKind.i64.wrap ((r1 : Int) + q) = (v : Int) := by rw [show (r1 : Int) + q = v by omega]; exact IntWalk.i64_in _ (by omega)
          have i4 : IntKind.i64.wrap (q : Int) = q := IntWalk.i64_in _ (by omega)
          have i5 : IntKind.i64.wrap (d : Int) = d := IntWalk.i64_in _ (by omega)
          have hmlt : m < n := by omega
          clear hcl hsn1 hsn2 hb2n hb1n h9n hv hq hd hr hr1e hm
          have hB6 : Below w4.heap.size w4 wr.drew := hB.drew
          have hS6 : Sums wr.drew w4.heap.size n (fun p => R'.getD p 0) := hS.later (B := wr.heap.size) ((Below.refl _ _).drew) (World.block_lt_of_cell? wr ⟨w4.heap.size, m, none⟩ c1)
          have c1' : wr.drew.cell? ⟨w4.heap.size, m, none⟩ = some (.int .i64 (r : Int)) := c1
          have f1' : wr.drew.frozen? ⟨w4.heap.size, m, none⟩ = false := f1
          have c2' : wr.drew.cell? ⟨w4.heap.size, m + 1, none⟩ = some (.int .i64 (r1 : Int)) := c2
          have f2' : wr.drew.frozen? ⟨w4.heap.size, m + 1, none⟩ = false := f2
          go_upto_region 13 with fail
          go_still_tail 15, (by kernel_rfl)
          change wpList _ _ _ _ _ wr.drew
          generalize wr.drew = w6 at *
          have HS6 := Lib.hid hS6
          clear hS6 hB hS c1 c2 f1 f2
          go_wp2_with fail
          go_roundg g
          case rel => exact ⟨m + 1, (R'.set (m + 1) v).set m d, by have := HM0.out; omega, by push_cast; rfl, by rw [List.length_set, List.length_set]; exact HRL'.out, HSN2.out _ (HSN1.out _ HS6.out), HCL.out, H9N.out, HB2N.out, HB1N.out, (hB6.setCell (p := ⟨w4.heap.size, m + 1, none⟩) (Nat.le_refl _) _).setCell (p := ⟨w4.heap.size, m, none⟩) (Nat.le_refl _) _⟩
          case measure => omega
    | succ g =>
      have hgo : i < s1 := by omega
      have HI := Lib.hid hi
      clear hi
      go_wp2_with fail
      go_loopg [10] s2 (fun q sk wq => ∃ (k : Nat) (R' : List Nat), k + q = s2 ∧ sk = .int .i64 (k : Int) ∧ R'.length = n ∧ Sums wq w4.heap.size n (fun p => R'.getD p 0) ∧ rowval R' = rowval (x.take i) * rowval y + x.getD i 0 * 10 ^ i * rowval (y.take k) ∧ (∀ j, R'.getD j 0 ≤ 81 * (i * 400 + k)) ∧ Below w4.heap.size w4 wq)
      case atStart => exact ⟨0, R, by omega, rfl, HRL.out, HS.out, by rw [HV.out]; simp [rowval], fun j => by have := HBD.out j; omega, hB⟩
      case round =>
        obtain ⟨k, R', hk, rfl, hRl, hS, hV, hbd, hB⟩ := hrel
        have HV' := Lib.hid hV; have HBD' := Lib.hid hbd; have HRL' := Lib.hid hRl
        clear hV hbd hRl
        cases gk with
        | zero =>
          have hgk : ¬ k < s2 := by omega
          have hkl : k = s2 := by omega
          have HKL := Lib.hid hkl
          have i1 : IntKind.i64.wrap ((i : Int) + 1) = (i : Int) + 1 := IntWalk.i64_in _ (by omega)
          have HS' := Lib.hid hS
          clear hkl hk hS
          go_wp2_with fail
          go_roundg g
          case rel => exact ⟨i + 1, R', by have := HI.out; omega, by push_cast; rfl, HRL'.out, HS'.out, by rw [HV'.out, rowval_take_succ, Nat.add_mul, HKL.out, show y.take s2 = y from List.take_of_length_le (by rw [HL2.out]; omega), Nat.mul_comm (10 ^ i)], fun j => by have := HBD'.out j; have := HKL.out; omega, hB⟩
          case measure => omega
        | succ q =>
          have hgk : k < s2 := by omega
          have HK := Lib.hid hk
          clear hk
          obtain ⟨p, hp⟩ : ∃ p, i + k = p := ⟨_, rfl⟩
          have hpn : p < n := by have := HN.out; omega
          have c1 := hS p hpn
          have hx := HX.out i hgo
          have hy := HY.out k hgk
          have hx := (hB.cell (p := ⟨gx, ox + i, none⟩) hgx).trans hx
          have hy := (hB.cell (p := ⟨gy, oy + k, none⟩) hgy).trans hy
          have x9 := HX9.out i
          have y9 := HY9.out k
          have hst := mul_low (R := R') (x := x) (y := y) (i := i) (k := k) (V := rowval y) (by rw [HRL'.out]; omega) HV'.out
          have hrb := HBD'.out p
          change _ = some (Value.int _ ((R'.getD p 0 : Nat) : Int)) ∧ _ at c1
          rw [hp] at hst
          obtain ⟨xv, hxv⟩ : ∃ v, x.getD i 0 = v := ⟨_, rfl⟩
          obtain ⟨yv, hyv⟩ : ∃ v, y.getD k 0 = v := ⟨_, rfl⟩
          obtain ⟨r, hr⟩ : ∃ r, R'.getD p 0 = r := ⟨_, rfl⟩
          rw [hxv] at hx x9 hst
          rw [hyv] at hy y9 hst
          rw [hr] at c1 hrb hst
          obtain ⟨v, hv⟩ : ∃ v, r + xv * yv = v := ⟨_, rfl⟩
          have hxy : xv * yv ≤ 81 := Nat.le_trans (Nat.mul_le_mul (show xv ≤ 9 by omega) (show yv ≤ 9 by omega)) (by decide)
          rw [hv] at hst
          have hbnew : ∀ j, (R'.set p v).getD j 0 ≤ 81 * (i * 400 + (k + 1)) := fun j => by
            have h := HBD'.out j
            rw [getD_set _ _ _ _ (by rw [HRL'.out]; omega)]
            split <;> omega
          have hsn := fun W (h : Sums W w4.heap.size n (fun p => R'.getD p 0)) => h.set (g := fun j => (R'.set p v).getD j 0) p v hpn (fun j hj => by
            show (R'.set p v).getD j 0 = _
            rw [getD_set _ _ _ _ (by rw [HRL'.out]; omega)])
          have HST := Lib.hid hst; have HBN := Lib.hid hbnew; have HSN := Lib.hid hsn; have HXV := Lib.hid hxv; have HP := Lib.hid hp
          have i1 : IntKind.i64.wrap ((i : Int) + k) = (p : Int) := by rw [show (i : Int) + k = p by omega]; exact IntWalk.i64_in _ (by omega)
          have hxyi : ((xv * yv : Nat) : Int) = (xv : Int) * yv := by push_cast; rfl
          have i5 : IntKind.i64.wrap ((xv : Int) * yv) = (xv : Int) * yv := by rw [← hxyi]; exact IntWalk.i64_in _ (by omega)
          have i6 : IntKind.i64.wrap ((r : Int) + (xv : Int) * yv) = (v : Int) := by rw [← hxyi, show (r : Int) + ((xv * yv : Nat) : Int) = v by omega]; exact IntWalk.i64_in _ (by omega)
          have i7 : IntKind.i64.wrap ((k : Int) + 1) = (k : Int) + 1 := IntWalk.i64_in _ (by omega)
          have d1 := c1.1
          have d2 := c1.2
          clear hst hbnew hsn hxv hyv hr hv hxyi c1 hp
          have hB6 : Below w4.heap.size w4 wr.drew := hB.drew
          have hS6 : Sums wr.drew w4.heap.size n (fun p => R'.getD p 0) := hS.later (B := wr.heap.size) ((Below.refl _ _).drew) (World.block_lt_of_cell? wr ⟨w4.heap.size, p, none⟩ d1)
          have d1' : wr.drew.cell? ⟨w4.heap.size, p, none⟩ = some (.int .i64 (r : Int)) := d1
          have d2' : wr.drew.frozen? ⟨w4.heap.size, p, none⟩ = false := d2
          go_upto_region 9 with fail
          go_still_tail 21, (by kernel_rfl)
          change wpList _ _ _ _ _ wr.drew
          generalize wr.drew = w6 at *
          have HS6 := Lib.hid hS6
          clear hS6 hB hS hx hy d1 d2
          go_wp2_with fail
          go_roundg q
          case rel => exact ⟨k + 1, R'.set p v, by have := HK.out; omega, by push_cast; rfl, by rw [List.length_set]; exact HRL'.out, HSN.out _ HS6.out, by rw [HST.out, HXV.out], HBN.out, hB6.setCell (p := ⟨w4.heap.size, p, none⟩) (Nat.le_refl _) _⟩
          case measure => omega
end Go.Proofs.YtgccppilhbannaaDoor
