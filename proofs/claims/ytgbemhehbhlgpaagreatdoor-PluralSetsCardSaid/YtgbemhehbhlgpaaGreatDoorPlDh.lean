/-
  Laws and contracts taken over from earlier texts (cut out by a program of this seat's own, slice.py), as far as this seat needs them.
-/
import Derived.Test.YtgbemhehbhlgpaaGreatDoorPlDg
namespace Go.Proofs.YtgbemhehbhlgpaaGreatDoor
section
open Go.RowKit Go.PlainAid
set_option maxRecDepth 100000 in
set_option maxHeartbeats 1000000 in
theorem compare_no {n1 : Bool} {d1 : ByteArray} {k1 : Int} {n2 : Bool} {d2 : ByteArray} {k2 : Int} (h : rightB n1 d1 k1 = false ∨ rightB n2 d2 k2 = false) (w : World) :
    Calls Tryz.prog 101 #[.agg #[.bool n1, .string d1, .int .i64 k1], .agg #[.bool n2, .string d2, .int .i64 k2]] w fun e w' => e = .returned (.tuple #[.int .i64 0, .int .i64 2]) ∧ Below w.heap.size w w' := by
  have hbo := fun W => both_no h W
  clear h
  go_enter Tryz.func101, Tryz.ntmps101
  go_wp2_with fail
  refine (hbo _).mono ?_
  rintro e w1 ⟨rfl, hB1⟩
  have hBw := (((Below.refl w.heap.size w).alloc (Nat.le_refl _) (.cells #[.bool n1, .string d1, .int .i64 k1] 23)).alloc (by simp) (.cells #[.bool n2, .string d2, .int .i64 k2] 23)).trans (hB1.mono (by simp; omega))
  clear hbo hB1
  go_wp2_with fail
  go_ret2
  exact ⟨by simp, hBw⟩

end
section
open Go.RowKit Go.PlainAid
theorem hold_callE {P : Program} {f : FuncId} {args : Array Value} {B : Nat} {w0 : World} {b0 : Nat} {c0 : Array Value} {b1 : Nat} {c1 : Array Value} {W : World} {l : List Nat} (h : Calls P f args W fun e w' => ∃ v, e = .returned v ∧ IntRow W.heap.size w' v l ∧ Below W.heap.size W w') (hS : Hold2 B w0 b0 c0 b1 c1 W) :
    Calls P f args W fun e w' => ∃ v, e = .returned v ∧ Ints w' v l ∧ Hold2 B w0 b0 c0 b1 c1 w' ∧ Below W.heap.size W w' := h.mono fun _ _ ⟨v, e, hr, hB⟩ => ⟨v, e, hr.ints, hS.on hB, hB⟩

/-- The difference as far as the first row goes: what stands in the second one beyond is nought. -/
theorem subL_all' {a b : List Nat} (ha : ∀ d ∈ a, d < 10) (hb : ∀ d ∈ b, d < 10) (hle : rowval b ≤ rowval a) : rowval (subL a b a.length) = rowval a - rowval b := by
  have h1 := subL_val (a := a) hb a.length
  rw [List.take_of_length_le (Nat.le_refl _)] at h1
  have h2 := rowval_split b a.length
  have h3 := rowval_lt ha
  have h5 := subB_le a b a.length
  have h6 := rowval_lt (subL_lt (b := b) ha a.length)
  rw [subL_length] at h6
  have hd : rowval (b.drop a.length) = 0 := by
    by_cases h : rowval (b.drop a.length) = 0
    · exact h
    · have : 10 ^ a.length * 1 ≤ 10 ^ a.length * rowval (b.drop a.length) := Nat.mul_le_mul_left _ (by omega)
      omega
  rw [hd, Nat.mul_zero, Nat.add_zero] at h2
  rw [← h2] at h1
  rcases Nat.le_one_iff_eq_zero_or_eq_one.1 h5 with h | h
  · rw [h, Nat.mul_zero] at h1
    omega
  · rw [h, Nat.mul_one] at h1
    omega

theorem rowOf_len (ds : ByteArray) (k : Nat) : (rowOf ds k).length ≤ k + ds.size := by
  simp [rowOf, dl_length]

theorem cmpD_same {n : Bool} {X Y : Nat} : cmpZ (sv n X) (sv n Y) = if n = true then cmpN Y X else cmpN X Y := by
  unfold cmpZ cmpN
  cases n
  · simp [sv_false]
  · simp [sv_true]

set_option maxRecDepth 100000 in
set_option maxHeartbeats 2000000 in
theorem rCompare_yes {n1 : Bool} {d1 : ByteArray} {k1 : Nat} {n2 : Bool} {d2 : ByteArray} {k2 : Nat} (h1 : rightB n1 d1 k1 = true) (h2 : rightB n2 d2 k2 = true) (w : World) :
    Calls Tryz.prog 75 #[.agg #[.bool n1, .string d1, .int .i64 k1], .agg #[.bool n2, .string d2, .int .i64 k2]] w fun e w' => e = .returned (.int .i64 (cmpD n1 d1 k1 n2 d2 k2)) ∧ Below w.heap.size w w' := by
  have hz1 : n1 = true → dval d1 ≠ 0 := neg_nz h1
  have hz2 : n2 = true → dval d2 ≠ 0 := neg_nz h2
  have HZ1 := Lib.hid hz1; have HZ2 := Lib.hid hz2
  clear hz1 hz2
  obtain ⟨a1, a2, a3, a4, _, a6⟩ := of_decide_eq_true h1
  obtain ⟨b1, b2, b3, b4, _, b6⟩ := of_decide_eq_true h2
  obtain ⟨R, hR⟩ : ∃ R, cmpD n1 d1 k1 n2 d2 k2 = R := ⟨_, rfl⟩
  rw [hR]
  unfold cmpD at hR
  obtain ⟨K, hK⟩ : ∃ K, max k1 k2 = K := ⟨_, rfl⟩
  have hmx : max (k1 : Int) (k2 : Int) = (K : Int) := by omega
  have A6 := Lib.hid a6; have B6 := Lib.hid b6
  clear h1 h2 a6 b6
  go_enter Tryz.func75, Tryz.ntmps75
  have ka := (Blk.new w #[Value.bool n1, .string d1, .int .i64 k1] 23).alloc (.cells #[Value.bool n2, .string d2, .int .i64 k2] 23)
  have kb := Blk.new' (w.alloc (.cells #[Value.bool n1, .string d1, .int .i64 k1] 23)) #[Value.bool n2, .string d2, .int .i64 k2] 23 (w.heap.size + 1) (by simp)
  have hBw := ((Below.refl w.heap.size w).alloc (Nat.le_refl _) (.cells #[Value.bool n1, .string d1, .int .i64 k1] 23)).alloc (by simp) (.cells #[Value.bool n2, .string d2, .int .i64 k2] 23)
  go_upto_region 2 with fail
  generalize (w.alloc (.cells #[Value.bool n1, .string d1, .int .i64 k1] 23)).alloc (.cells #[Value.bool n2, .string d2, .int .i64 k2] 23) = W0 at *
  have hS := Hold2.mk ka kb hBw (Nat.le_refl _)
  have hz := hBw.size
  go_region_held3 (fun w' => (∀ o, w'.cell? ⟨w.heap.size, o, none⟩ = #[Value.bool n1, Value.string d1, Value.int .i64 k1][o]?) ∧ (∀ o, w'.cell? ⟨w.heap.size + 1, o, none⟩ = #[Value.bool n2, Value.string d2, Value.int .i64 k2][o]?) ∧ Below w.heap.size w w')
    (first | exact hS4.two | exact hS3.two | exact hS.drew.two)
    (first
      | (go_at_call 74; have hS3' := hS3; refine (hold_callE (rRow_any _ _ _ _ _ (by first | exact A6.out | exact B6.out) (by omega) (by omega) (by omega)) hS3').mono ?_; rintro e w4 ⟨v4, rfl, hI4, hS4, hB4⟩)
      | (go_at_call 74; refine (hold_callE (rRow_any _ _ _ _ _ (by first | exact A6.out | exact B6.out) (by omega) (by omega) (by omega)) hS.drew).mono ?_; rintro e w3 ⟨v3, rfl, hI3, hS3, hB3⟩))
  have hX := hI3.later hB4 (Nat.le_refl _)
  have hY := hI4
  rw [show ((K : Int) - (k1 : Int)).toNat = K - k1 by omega] at hX
  rw [show ((K : Int) - (k2 : Int)).toNat = K - k2 by omega] at hY
  rw [hK, ← rowval_rowOf, ← rowval_rowOf] at hR
  have x1 := rowOf_lt A6.out (K - k1)
  have y1 := rowOf_lt B6.out (K - k2)
  have x2 : (rowOf d1 (K - k1)).length ≤ 1000 := Nat.le_trans (rowOf_len _ _) (by omega)
  have y2 : (rowOf d2 (K - k2)).length ≤ 1000 := Nat.le_trans (rowOf_len _ _) (by omega)
  have hzx : n1 = true → rowval (rowOf d1 (K - k1)) ≠ 0 := fun h e => by
    rw [rowval_rowOf] at e
    rcases Nat.mul_eq_zero.1 e with e | e
    · exact HZ1.out h e
    · have := Nat.pow_pos (n := K - k1) (show 0 < 10 by decide); omega
  have hzy : n2 = true → rowval (rowOf d2 (K - k2)) ≠ 0 := fun h e => by
    rw [rowval_rowOf] at e
    rcases Nat.mul_eq_zero.1 e with e | e
    · exact HZ2.out h e
    · have := Nat.pow_pos (n := K - k2) (show 0 < 10 by decide); omega
  clear hI3 hI4
  generalize rowOf d1 (K - k1) = x at *
  generalize rowOf d2 (K - k2) = y at *
  have HR := Lib.hid hR
  have hBw := hS4.2.2.2.2.1
  have ka := hS4.blk.1
  have kb := hS4.blk.2
  have ca := ka.cell
  have cb := kb.cell
  clear hR hK hS hS3 hS4 hB3 hB4 hz
  have hres : (n1 = true → n2 = false → R = -1) ∧ (n1 = false → n2 = true → R = 1) ∧ (n1 = n2 → R = if n1 = true then cmpN (rowval y) (rowval x) else cmpN (rowval x) (rowval y)) := by
    rw [← HR.out]
    refine ⟨fun e1 e2 => ?_, fun e1 e2 => ?_, fun e => ?_⟩
    · have := hzx e1
      subst e1; subst e2
      unfold cmpZ
      rw [sv_true, sv_false, if_pos (by omega)]
    · have := hzy e2
      subst e1; subst e2
      unfold cmpZ
      rw [sv_true, sv_false, if_neg (by omega), if_pos (by omega)]
    · subst e
      exact cmpD_same
  have HX := Lib.hid hX; have HY := Lib.hid hY
  have hxy := rLess_any v3 v4 x y w4 hX hY x1 y1 (by omega) (by omega)
  have hyx := rLess_any v4 v3 y x w4 hY hX y1 x1 (by omega) (by omega)
  clear hzx hzy hX hY HR HX HY x1 y1 ka kb
  have hcs : ∀ (a b : List Nat), (lessB a b = true ∧ cmpN (rowval a) (rowval b) = -1) ∨ (lessB a b = false ∧ lessB b a = true ∧ cmpN (rowval a) (rowval b) = 1) ∨ (lessB a b = false ∧ lessB b a = false ∧ cmpN (rowval a) (rowval b) = 0) := fun a b => by
    unfold lessB
    rcases cmpN_cases (rowval a) (rowval b) with ⟨g, e⟩ | ⟨g, e⟩ | ⟨g, e⟩
    · exact .inr (.inl ⟨decide_eq_false (by omega), decide_eq_true (by omega), e⟩)
    · exact .inr (.inr ⟨decide_eq_false (by omega), decide_eq_false (by omega), e⟩)
    · exact .inl ⟨decide_eq_true (by omega), e⟩
  have HCS := Lib.hid hcs
  clear hcs
  cases n1 <;> cases n2
  · have hr := hres.2.2 rfl
    have HRR := Lib.hid hr
    clear hr hres
    rcases HCS.out x y with ⟨e1, e2⟩ | ⟨e1, e2, e3⟩ | ⟨e1, e2, e3⟩
    · rw [e1] at hxy
      have HF := Lib.hid (HRR.out.trans e2)
      clear e1 e2 hyx
      go_wp2_with fail
      refine hxy.mono ?_
      rintro e w' ⟨rfl, rfl⟩
      go_wp2_with fail
      go_ret
      exact ⟨ret_int HF.out.symm, hBw⟩
    · rw [e1] at hxy
      rw [e2] at hyx
      have HF := Lib.hid (HRR.out.trans e3)
      clear e1 e2 e3
      go_wp2_with fail
      refine hxy.mono ?_
      rintro e w' ⟨rfl, rfl⟩
      go_wp2_with fail
      refine hyx.mono ?_
      rintro e w' ⟨rfl, rfl⟩
      go_wp2_with fail
      go_ret
      exact ⟨ret_int HF.out.symm, hBw⟩
    · rw [e1] at hxy
      rw [e2] at hyx
      have HF := Lib.hid (HRR.out.trans e3)
      clear e1 e2 e3
      go_wp2_with fail
      refine hxy.mono ?_
      rintro e w' ⟨rfl, rfl⟩
      go_wp2_with fail
      refine hyx.mono ?_
      rintro e w' ⟨rfl, rfl⟩
      go_wp2_with fail
      go_ret
      exact ⟨ret_int HF.out.symm, hBw⟩
  · have HF := Lib.hid (hres.2.1 rfl rfl)
    clear hres hxy hyx
    go_wp2_with fail
    go_ret
    exact ⟨ret_int HF.out.symm, hBw⟩
  · have HF := Lib.hid (hres.1 rfl rfl)
    clear hres hxy hyx
    go_wp2_with fail
    go_ret
    exact ⟨ret_int HF.out.symm, hBw⟩
  · have hr := hres.2.2 rfl
    have HRR := Lib.hid hr
    clear hr hres
    rcases HCS.out y x with ⟨e1, e2⟩ | ⟨e1, e2, e3⟩ | ⟨e1, e2, e3⟩
    · rw [e1] at hyx
      have HF := Lib.hid (HRR.out.trans e2)
      clear e1 e2 hxy
      go_wp2_with fail
      refine hyx.mono ?_
      rintro e w' ⟨rfl, rfl⟩
      go_wp2_with fail
      go_ret
      exact ⟨ret_int HF.out.symm, hBw⟩
    · rw [e1] at hyx
      rw [e2] at hxy
      have HF := Lib.hid (HRR.out.trans e3)
      clear e1 e2 e3
      go_wp2_with fail
      refine hyx.mono ?_
      rintro e w' ⟨rfl, rfl⟩
      go_wp2_with fail
      refine hxy.mono ?_
      rintro e w' ⟨rfl, rfl⟩
      go_wp2_with fail
      go_ret
      exact ⟨ret_int HF.out.symm, hBw⟩
    · rw [e1] at hyx
      rw [e2] at hxy
      have HF := Lib.hid (HRR.out.trans e3)
      clear e1 e2 e3
      go_wp2_with fail
      refine hyx.mono ?_
      rintro e w' ⟨rfl, rfl⟩
      go_wp2_with fail
      refine hxy.mono ?_
      rintro e w' ⟨rfl, rfl⟩
      go_wp2_with fail
      go_ret
      exact ⟨ret_int HF.out.symm, hBw⟩

end
section
open Go.RowKit Go.PlainAid
/-- Whole numbers stand in a block that may be written. -/
def Sums (w : World) (b n : Nat) (f : Nat → Nat) : Prop := ∀ p, p < n → w.cell? ⟨b, p, none⟩ = some (.int .i64 ((f p : Nat) : Int)) ∧ w.frozen? ⟨b, p, none⟩ = false

theorem Sums.set {w : World} {b n : Nat} {f g : Nat → Nat} (h : Sums w b n f) (p : Nat) (v : Nat) (hp : p < n) (hg : ∀ q, q < n → g q = if q = p then v else f q) : Sums (w.setCell ⟨b, p, none⟩ (.int .i64 (v : Int))) b n g := fun q hq => by
  refine ⟨?_, by rw [World.frozen?_setCell]; exact (h q hq).2⟩
  rw [hg q hq]
  by_cases e : q = p
  · subst e
    rw [World.cell?_setCell_same' _ _ _ (by rw [(h _ hq).1]; rfl), if_pos rfl]
  · rw [World.cell?_setCell_other _ _ _ _ (by first | (simp; done) | (simp; omega)), (h q hq).1, if_neg e]

theorem Sums.on {w w' : World} {b n : Nat} {f : Nat → Nat} (h : Sums w b n f) (hB : Below w.heap.size w w') (hb : b < w.heap.size) : Sums w' b n f := fun q hq =>
  ⟨(hB.cell (p := ⟨b, q, none⟩) hb).trans (h q hq).1, (hB.frozen (p := ⟨b, q, none⟩) hb).trans (h q hq).2⟩

theorem Sums.drewN {w : World} {b n : Nat} {f : Nat → Nat} (h : Sums w b n f) (k : Nat) : Sums (w.drewN k) b n f := fun q hq => ⟨by simpa using (h q hq).1, by simpa using (h q hq).2⟩

theorem drop_cons (l : List Nat) (m : Nat) (h : m < l.length) : l.drop m = l.getD m 0 :: l.drop (m + 1) := by
  rw [List.drop_eq_getElem_cons h, List.getD_eq_getElem?_getD, List.getElem?_eq_getElem h]
  rfl

theorem rowval_drop (l : List Nat) (m : Nat) (h : m < l.length) : rowval (l.drop m) = l.getD m 0 + 10 * rowval (l.drop (m + 1)) := by
  rw [drop_cons l m h]
  simp only [rowval]

theorem getD_le (l : List Nat) (m : Nat) : 10 ^ m * l.getD m 0 ≤ rowval l := by
  by_cases h : m < l.length
  · have h1 := rowval_split l m
    have h2 := rowval_drop l m h
    have h3 : 10 ^ m * l.getD m 0 ≤ 10 ^ m * rowval (l.drop m) := Nat.mul_le_mul_left _ (by omega)
    omega
  · rw [List.getD_eq_getElem?_getD, List.getElem?_eq_none (by omega)]
    simp

end
section
open Go.RowKit Go.PlainAid
theorem Sums.later {B : Nat} {w w' : World} {b n : Nat} {f : Nat → Nat} (h : Sums w b n f) (hB : Below B w w') (hb : b < B) : Sums w' b n f := fun q hq =>
  ⟨(hB.cell (p := ⟨b, q, none⟩) hb).trans (h q hq).1, (hB.frozen (p := ⟨b, q, none⟩) hb).trans (h q hq).2⟩

theorem OutI.later {B n i K : Nat} {l : List Nat} {w w' : World} (h : OutI B n l i w) (hB : Below K w w') (hb : B < K) : OutI B n l i w' := fun j hj =>
  ⟨(hB.cell (p := ⟨B, j, none⟩) hb).trans (h j hj).1, (hB.frozen (p := ⟨B, j, none⟩) hb).trans (h j hj).2⟩

end
section
open Go.RowKit Go.PlainAid
theorem digs_right {neg : Bool} {n : Nat} {k : Int} (h1 : (digs n).size ≤ 400) (h2 : 0 ≤ k) (h3 : k ≤ 400) : rightB (neg && n != 0) (digs n) k = true := by
  refine right_yes (digs_pos n) h1 h2 h3 (fun g => ?_) (digs_dig n)
  obtain ⟨g1, g2⟩ := g
  have hc := lowD_canon n
  have hsz : (digs n).size = (lowD n).length := by unfold digs; rw [textL_size, List.length_reverse]
  have hlast := low_get (digs_dig n) 0 ((lowD n).length - 1) (digs_pos n) (by have := digs_pos n; omega)
  have hlow : low (digs n) = lowD n := by
    unfold low digs
    rw [dl_textL _ (fun d hd => hc.2.1 d (by simpa using hd)), List.reverse_reverse]
  rw [hlow] at hlast
  have hz : (lowD n).getD ((lowD n).length - 1) 0 = 0 := by omega
  rcases g2 with g2 | g2
  · have h4 := hc.2.2 (by omega)
    apply h4
    rw [List.getLast?_eq_getElem?]
    rw [List.getD_eq_getElem?_getD, List.getElem?_eq_getElem (by omega)] at hz
    rw [List.getElem?_eq_getElem (by omega)]
    exact congrArg some hz
  · have hn : n ≠ 0 := by
      intro e
      subst e
      cases neg <;> simp at g2
    by_cases hl : 1 < (digs n).size
    · have h4 := hc.2.2 (by omega)
      apply h4
      rw [List.getLast?_eq_getElem?]
      rw [List.getD_eq_getElem?_getD, List.getElem?_eq_getElem (by omega)] at hz
      rw [List.getElem?_eq_getElem (by omega)]
      exact congrArg some hz
    · have hv := rowval_lowD n
      have hp := digs_pos n
      match hll : lowD n with
      | [] =>
        have h0 : (digs n).size = 0 := by rw [hsz, hll]; rfl
        omega
      | [d] =>
        rw [hll] at hz hv
        have hd : d = 0 := hz
        have hv2 : d + 10 * 0 = n := hv
        omega
      | a :: b :: l =>
        have h0 : (digs n).size = l.length + 2 := by rw [hsz, hll]; rfl
        omega

/-- A right decimal is a whole number at a scale. -/
def Is (n : Bool) (d : ByteArray) (k : Nat) (z : Int) : Prop := rightB n d k = true ∧ sv n (dval d) = z

end
section
open Go.RowKit Go.PlainAid
set_option maxRecDepth 100000 in
set_option maxHeartbeats 1000000 in
theorem of_one (w : World) : Calls Tryz.prog 30 #[.int .i64 1] w fun e w' => e = .returned (.agg #[.bool false, .string ⟨#[49]⟩, .int .i64 0]) ∧ Below w.heap.size w w' := by
  have h1 : ∀ W : World, Calls Tryz.prog 50 #[.int .i64 1, .int .i64 10] W fun e w' => e = .returned (.string ⟨#[49]⟩) ∧ W = w' := fun W => by
    have h := Tryz.strconv_FormatInt_10_small 1 (by decide) W
    have e : (⟨(Lib.decDigits 1).toArray⟩ : ByteArray) = ⟨#[49]⟩ := by decide +kernel
    rw [e] at h
    exact h.mono fun _ _ ⟨a, b⟩ => ⟨a, b.symm⟩
  have h2 : ∀ W : World, Calls Tryz.prog 49 #[.string ⟨#[49]⟩, .string ⟨#[45]⟩] W fun e w' => e = .returned (.tuple #[.string ⟨#[49]⟩, .bool false]) ∧ W = w' := fun W => by
    have h := Tryz.strings_CutPrefix ⟨#[49]⟩ ⟨#[45]⟩ W
    have e : (⟨(Lib.trimPrefix (⟨#[49]⟩ : ByteArray).data.toList (⟨#[45]⟩ : ByteArray).data.toList).toArray⟩ : ByteArray) = ⟨#[49]⟩ := by decide +kernel
    have e2 : Lib.hasPrefix (⟨#[49]⟩ : ByteArray).data.toList (⟨#[45]⟩ : ByteArray).data.toList = false := by decide +kernel
    rw [e, e2] at h
    exact h.mono fun _ _ ⟨a, b⟩ => ⟨a, b.symm⟩
  go_enter Tryz.func30, Tryz.ntmps30
  go_wp2_with fail
  refine (h1 _).mono ?_
  rintro e w' ⟨rfl, rfl⟩
  go_wp2_with fail
  refine (h2 _).mono ?_
  rintro e w' ⟨rfl, rfl⟩
  go_wp2_with fail
  refine bodyPost_ret ?_ rfl ⟨rfl, ?_⟩
  · simp [results, Tryz.results30, go_sem]
  · repeat (refine Below.setCell ?_ (Nat.le_refl _) _)
    exact (Below.refl _ _).alloc (Nat.le_refl _) _

end
section
open Go.Shelf Go.RowKit Go.Sort Go.Lib
theorem decDigits_low : ∀ (f u : Nat), u < f → Lib.decDigits u = ((lowD u).reverse).map fun d => UInt8.ofNat (48 + d)
  | 0, _, h => absurd h (by omega)
  | f + 1, u, h => by
    unfold Lib.decDigits
    by_cases hu : u < 10
    · rw [dif_pos hu, lowD_small u hu]
      rfl
    · rw [dif_neg hu, lowD_step u (by omega), decDigits_low f (u / 10) (by omega)]
      simp

theorem decDigits_digs (u : Nat) : (⟨(Lib.decDigits u).toArray⟩ : ByteArray) = digs u := by
  rw [decDigits_low (u + 1) u (by omega)]
  rfl

set_option maxRecDepth 100000 in
set_option maxHeartbeats 6400000 in
theorem fmtU_in (u : Nat) (hu64 : u < 18446744073709551616) (w : World) (htab : Lib.TabIs Tryz.prog w "internal/strconv.uint64pow10" .u64 Lib.pow10Tab) :
    Calls Tryz.prog 122 #[.int .u64 u, .int .i64 10] w fun e w' => e = .returned (.string ⟨(Lib.decDigits u).toArray⟩) ∧ Below w.heap.size w w' := by
  by_cases hs : u < 100
  · have hw : IntKind.i64.wrap (u : Int) = u := IntWalk.i64_in _ (by omega)
    go_enter Tryz.func122, Tryz.ntmps122
    go_wp2_with fail
    refine (Tryz.internal_strconv_small u hs _).mono ?_
    rintro e w' ⟨rfl, rfl⟩
    go_wp2_with fail
    go_ret
    exact ⟨rfl, Below.refl _ _⟩
  · have hu1 : 1 ≤ u := by omega
    have hnd20 : Lib.nDigits u ≤ 20 := by have := Lib.numDigits_eq u hu1 hu64; split at this <;> omega
    have hal : Tryz.prog.arrayLen 171 = 24 := by simp [Program.arrayLen, Tryz.underlying171]
    have hsl1 : ∀ W, (Instr.sliceAt 171 (.pointer (some ⟨w.heap.size, 0, none⟩)) none (some (.int .i64 (Lib.nDigits u : Int))) none).run Tryz.prog W = .ok (.slice (some ⟨w.heap.size, 0, none⟩) (Lib.nDigits u) 24) W := fun W => by
      rw [run_sliceAt_array_h W 171 ⟨w.heap.size, 0, none⟩ (by simp [Program.arrayLen, Program.elem, Tryz.underlying171]) .i64 (Lib.nDigits u : Int) (by omega) (by rw [hal]; omega)]
      go_simp
    have hH0 := Lib.holds_zero0 w 171 (Lib.nDigits u) (by omega)
    have hfmt := Tryz.internal_strconv_formatBase10 w.heap.size 0 24 u (Array.replicate (Lib.nDigits u) 0) (w.alloc (.cells Lib.zeros24 171)) hH0 (by rw [Array.size_replicate]; exact Lib.lt_pow_nDigits u) hu64 (by rw [Array.size_replicate]; omega)
    rw [Array.size_replicate] at hfmt
    have HH0 := Lib.hid hH0
    clear hH0 hal
    go_enter Tryz.func122, Tryz.ntmps122
    go_wp2_with fail
    refine (Tryz.internal_strconv_numDigits u hu1 hu64 _ (Lib.tabIs_alloc htab _)).mono ?_
    rintro e w' ⟨rfl, rfl⟩
    go_wp2_with fail
    go_at_call 108
    refine hfmt.mono ?_
    rintro e w' ⟨rfl, k, v', dk, rfl, hF⟩
    have hcv : (convert 93 9 (.slice (some ⟨w.heap.size, 0, none⟩) (Lib.nDigits u) 24)).run Tryz.prog ((putRow (fun (b : UInt8) => Value.int .u8 (b.toNat : Int)) (w.alloc (.cells Lib.zeros24 171)) w.heap.size 0 dk).drewN k) = .ok (.string ⟨(Lib.decDigits u).toArray⟩) ((putRow (fun (b : UInt8) => Value.int .u8 (b.toNat : Int)) (w.alloc (.cells Lib.zeros24 171)) w.heap.size 0 dk).drewN k) := by
      have h := run_convert_bytes_back (P := Tryz.prog) ((putRow (fun (b : UInt8) => Value.int .u8 (b.toNat : Int)) (w.alloc (.cells Lib.zeros24 171)) w.heap.size 0 dk).drewN k) 93 9 5 ⟨w.heap.size, 0, none⟩ 24 (Lib.decDigits u) Tryz.underlying93 Tryz.underlying5 Tryz.underlying9 (fun j hj => by
        rw [Lib.row_is_numeral hF j hj, Lib.add_plain, World.cell?_drewN]
        exact cell?_putRow (fun (b : UInt8) => Value.int .u8 (b.toNat : Int)) _ w.heap.size 0 _ dk HH0.out (by rw [hF.size, Array.size_replicate]) j (by rw [hF.size]; rw [Lib.decDigits_length] at hj; exact hj))
      rw [Lib.decDigits_length] at h
      exact h
    have hBw : Below w.heap.size w ((putRow (fun (b : UInt8) => Value.int .u8 (b.toNat : Int)) (w.alloc (.cells Lib.zeros24 171)) w.heap.size 0 dk).drewN k) := by
      rw [alloc_eq_grow]
      obtain ⟨os', _, e⟩ := putRow_grow_new (fun (b : UInt8) => Value.int .u8 (b.toNat : Int)) w #[.cells Lib.zeros24 171] w.heap.size 0 dk (Nat.le_refl _)
      rw [e]
      exact Lib.below_grow w.heap.size w (Nat.le_refl _) k os'
    go_wp2_with fail
    go_ret
    exact ⟨rfl, hBw⟩

set_option maxRecDepth 100000 in
theorem fmtU (u : Nat) (hu64 : u < 18446744073709551616) (w : World) (htab : Lib.TabIs Tryz.prog w "internal/strconv.uint64pow10" .u64 Lib.pow10Tab) :
    Calls Tryz.prog 97 #[.int .u64 u, .int .i64 10] w fun e w' => e = .returned (.string (digs u)) ∧ Below w.heap.size w w' := by
  have h := fmtU_in u hu64 w htab
  rw [decDigits_digs] at h
  go_enter Tryz.func97, Tryz.ntmps97
  go_wp2_with fail
  refine h.mono ?_
  rintro e w' ⟨rfl, hB⟩
  go_wp2_with fail
  go_ret
  exact ⟨rfl, hB⟩

/-- The table of powers of ten lies in the world. -/
abbrev PowTab (w : World) : Prop := Lib.TabIs Tryz.prog w "internal/strconv.uint64pow10" .u64 Lib.pow10Tab

theorem PowTab.on {w w' : World} (h : PowTab w) (hB : Below w.heap.size w w') : PowTab w' := by
  have hg : Tryz.prog.globalNamed "internal/strconv.uint64pow10" = some 2 := by kernel_rfl
  refine var?_below hB hg ?_ h
  have h2 := h
  unfold PowTab Lib.TabIs World.var? at h2
  rw [hg] at h2
  simp only [Option.bind_some] at h2
  by_cases hlt : 2 < w.heap.size
  · exact hlt
  · rw [Array.getElem?_eq_none (by omega)] at h2
    cases h2

end
end Go.Proofs.YtgbemhehbhlgpaaGreatDoor
