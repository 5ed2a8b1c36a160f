/-
  The walk of DecFloats.
-/
import Derived.Test.YtgccppilhbannaaDoorFltX
import Derived.Test.YtgccppilhbannaaDoorRefFloat
import Derived.Test.YtgccppilhbannaaDoorRefRound
import Derived.Test.YtgccppilhbannaaDoorSumsW
import Derived.Deep.Cut
import Derived.Deep.DeepCutAuto
namespace Go.Proofs.YtgccppilhbannaaDoor
open Go.RowKit Go.PlainAid

theorem wpList_spread_int {ops : Array Oper} {rest : List Oper} {o : Oper} {a : Act} {Q : Exit → Act → World → Prop} {W0 w : World} {B : Nat} (hgd : o.guard = none) (s x : Operand)
    (ho : o.op = .call { callee := .builtin .append, args := #[s, x], argTypes := #[40, 40] })
    (base : Nat) (v : Value) (l t : List Nat) (g of c : Nat) (hs : a.eval s = v) (hrow : IntRow base w v l) (hx : a.eval x = .slice (some ⟨g, of, none⟩) t.length c)
    (hcell : ∀ j (hj : j < t.length), w.cell? ⟨g, of + j, none⟩ = some (.int .i64 (t[j] : Int))) (hlen : l.length + t.length ≤ 1000000000000)
    (hB : Below B W0 w) (hb : B ≤ base) (hz : base ≤ w.heap.size)
    (h : ∀ v' w', IntRow base w' v' (l ++ t) → Below B W0 w' → wpList Tryd.prog ops Q rest (a.put o.dst v') w') : wpList Tryd.prog ops Q (o :: rest) a w := by
  obtain ⟨i0, hi, hz0, hz1, hz2⟩ := info_parts infoInt
  refine wpList_append_own _ hgd s x 40 ho base 3 i0 (.int .i64 0) 1 8 Tryd.underlying40 hi hz0 hz1 hz2 rfl (by decide) v l.length _ hs hrow ⟨g, of, none⟩ t.length c (t.map fun d : Nat => Value.int .i64 (d : Int)) hx (by rw [List.length_map, Nat.mul_one]) (fun j u hu => ?_) (fun u hu => ?_) (by unfold maxLen; omega) (by omega) (by omega) ?_
  · rw [List.getElem?_map] at hu
    by_cases hj : j < t.length
    · rw [List.getElem?_eq_getElem hj] at hu
      have hu := Option.some.inj hu
      rw [Lib.add_plain, hcell j hj, ← hu]
    · rw [List.getElem?_eq_none (by omega)] at hu
      cases hu
  · obtain ⟨b, _, rfl⟩ := List.mem_map.1 hu
    simp [Value.oneCell']
  · intro v' w' hown' hgrow _
    refine h v' w' ?_ (hB.grown hgrow (by omega) (fun k hk => Nat.le_trans hb (hrow.own k hk)))
    unfold IntRow
    rw [List.length_append, List.map_append]
    exact hown'
theorem rowval_zeros_app (k : Nat) (l : List Nat) : rowval (List.replicate k 0 ++ l) = rowval l * 10 ^ k := by
  rw [rowval_append, rowval_zeros, List.length_replicate]
  simp [Nat.mul_comm]
theorem roundL_V {neg : Bool} {l : List Nat} (h10 : ∀ d ∈ l, d < 10) (c : Nat) (mode : Int) : rowval (roundL neg l c mode) = roundN neg (rowval l) c mode := by
  have h1 := rowval_split l c
  have h2 := rowval_pad_lt h10 c
  have hp : 0 < 10 ^ c := Nat.pow_pos (by decide)
  have e1 : rowval (l.drop c) = rowval l / 10 ^ c := by rw [h1, Nat.add_mul_div_left _ _ hp, Nat.div_eq_of_lt h2, Nat.zero_add]
  have e2 : rowval (l.take c) = rowval l % 10 ^ c := by rw [h1, Nat.add_mul_mod_self_left, Nat.mod_eq_of_lt h2]
  rw [roundL_val h10, e1, e2]
  rfl
end Go.Proofs.YtgccppilhbannaaDoor
namespace Go.Proofs.YtgccppilhbannaaDoor
open Go.RowKit Go.PlainAid

theorem binSub_num {u : Nat} (h : FloatKind.f64.format.sub u u = some 0) (W : World) : (binOp .sub 61 (.float .f64 u) (.float .f64 u)).run Tryd.prog W = .ok (.float .f64 0) W := by
  simp [binOp, go_sem, Op.floatArith, h]
theorem binSub_far {u : Nat} (h : FloatKind.f64.format.sub u u = none) (W : World) : (binOp .sub 61 (.float .f64 u) (.float .f64 u)).run Tryd.prog W = .ok (.float .f64 ((Question.nanBits .f64 u u).cut (W.tape W.drawn (.nanBits .f64 u u)))) W.drew := by
  simp [binOp, go_sem, Op.floatArith, h]
theorem nan_drawn (t : Nat) (x y : Nat) : FloatKind.f64.format.order ((Question.nanBits .f64 x y).cut t) 0 = none := by
  show Ieee.double.order (t % 2 * 2 ^ 63 + 0x7ff0000000000000 + 1 + t / 2 % (2 ^ 52 - 1)) 0 = none
  have h : t / 2 % (2 ^ 52 - 1) < 2 ^ 52 - 1 := Nat.mod_lt _ (by decide)
  have h2 : t % 2 < 2 := Nat.mod_lt _ (by decide)
  generalize t / 2 % (2 ^ 52 - 1) = r at *
  generalize t % 2 = b at *
  refine order_nan ?_ ?_
  · unfold fexp
    simp only [Nat.reducePow, Nat.reduceSub] at *
    omega
  · unfold ffr
    simp only [Nat.reducePow, Nat.reduceSub] at *
    omega

set_option maxRecDepth 100000 in
set_option maxHeartbeats 2000000 in
theorem floats_arg (u : Nat) (sc : Int) (w : World) (h : sc < 0 ∨ 40 < sc) :
    Calls Tryd.prog 10 #[.int .u64 (u : Int), .int .i64 sc] w fun e w' => e = .returned (.bool true) ∧ Below w.heap.size w w' := by
  have c1 := fun W => float_arg u sc W h
  have q1 := fromBits u
  have i1 := fun W => isSame false ⟨#[]⟩ 0 2 W
  have hcase : sc < 0 ∨ (¬ sc < 0 ∧ 40 < sc) := by omega
  clear h
  rcases hcase with h | ⟨h, h'⟩
  all_goals
    go_enter Tryd.func10, Tryd.ntmps10
    go_wp2_with fail
    refine (wakes_any _).mono ?_
    rintro e w1 ⟨rfl, hBw⟩
    go_wp2_with fail
    refine (c1 _).mono ?_
    rintro e w2 ⟨rfl, hB2⟩
    have hBw := (hBw.trans (hB2.mono hBw.size)).alloc (by have := hBw.size; have := hB2.size; omega) (.cells #[Value.bool false, .string ⟨#[]⟩, .int .i64 0] 23)
    clear hB2 c1
    go_wp2_with fail
    refine (i1 _).mono ?_
    rintro e w3 ⟨rfl, hB3⟩
    have hBw := hBw.trans (hB3.mono hBw.size)
    go_wp2_with fail
    go_ret
    exact ⟨rfl, hBw⟩

set_option maxRecDepth 100000 in
set_option maxHeartbeats 2000000 in
theorem floats_far (u : Nat) (hu : u < 18446744073709551616) (m : Nat) (hm : m ≤ 40) (h : fexp u = 2047) (w : World) :
    Calls Tryd.prog 10 #[.int .u64 (u : Int), .int .i64 m] w fun e w' => e = .returned (.bool true) ∧ Below w.heap.size w w' := by
  have c1 := fun W => float_far u hu m hm h W
  have q1 := fromBits u
  have i1 := fun W => isSame false ⟨#[]⟩ 0 7 W
  have h1 : ¬ (m : Int) < 0 := by omega
  have h2 : ¬ (40 : Int) < m := by omega
  by_cases h0 : ffr u = 0
  · have o1 : FloatKind.f64.format.order u u = some .eq := order_self (fun g => g.2 h0)
    have o2 : FloatKind.f64.format.sub u u = none := sub_inf h h0
    obtain ⟨f, hf⟩ : ∃ f : World → Nat, ∀ W, (binOp .sub 61 (.float .f64 u) (.float .f64 u)).run Tryd.prog W = .ok (.float .f64 (f W)) W.drew ∧ FloatKind.f64.format.order (f W) 0 = none := ⟨_, fun W => ⟨binSub_far o2 W, nan_drawn _ _ _⟩⟩
    have b1 := fun W => (hf W).1
    have o3 := fun W => (hf W).2
    clear hf o2
    clear h h0
    go_enter Tryd.func10, Tryd.ntmps10
    go_wp2_with fail
    refine (wakes_any _).mono ?_
    rintro e w1 ⟨rfl, hBw⟩
    go_wp2_with fail
    refine (c1 _).mono ?_
    rintro e w2 ⟨rfl, hB2⟩
    have hBw := (hBw.trans (hB2.mono hBw.size)).alloc (by have := hBw.size; have := hB2.size; omega) (.cells #[Value.bool false, .string ⟨#[]⟩, .int .i64 0] 23)
    clear hB2 c1
    go_wp2_with fail
    refine (i1 _).mono ?_
    rintro e w3 ⟨rfl, hB3⟩
    have hBw := hBw.drew.trans (hB3.mono hBw.drew.size)
    go_wp2_with fail
    go_ret
    exact ⟨rfl, hBw⟩
  · have o1 : FloatKind.f64.format.order u u = none := order_nan h h0
    clear h h0
    go_enter Tryd.func10, Tryd.ntmps10
    go_wp2_with fail
    refine (wakes_any _).mono ?_
    rintro e w1 ⟨rfl, hBw⟩
    go_wp2_with fail
    refine (c1 _).mono ?_
    rintro e w2 ⟨rfl, hB2⟩
    have hBw := (hBw.trans (hB2.mono hBw.size)).alloc (by have := hBw.size; have := hB2.size; omega) (.cells #[Value.bool false, .string ⟨#[]⟩, .int .i64 0] 23)
    clear hB2 c1
    go_wp2_with fail
    refine (i1 _).mono ?_
    rintro e w3 ⟨rfl, hB3⟩
    have hBw := hBw.trans (hB3.mono hBw.size)
    go_wp2_with fail
    go_ret
    exact ⟨rfl, hBw⟩

set_option maxRecDepth 100000 in
set_option maxHeartbeats 4000000 in
theorem floats_num (u : Nat) (hu : u < 18446744073709551616) (m : Nat) (hm : m ≤ 40) (h : fexp u < 2047) (w : World) (hP : PowTab w) :
    Calls Tryd.prog 10 #[.int .u64 (u : Int), .int .i64 m] w fun e w' => e = .returned (.bool true) ∧ Below w.heap.size w w' := by
  obtain ⟨F, hF⟩ : ∃ F, F = if fexp u = 0 then ffr u else ffr u + 4503599627370496 := ⟨_, rfl⟩
  obtain ⟨up, hup⟩ : ∃ up, up = fexp u - 1 - 1074 := ⟨_, rfl⟩
  obtain ⟨dn, hdn⟩ : ∃ dn, dn = 1074 - (fexp u - 1) := ⟨_, rfl⟩
  obtain ⟨neg, hneg⟩ : ∃ neg, (((u : Int) / 9223372036854775808 == 1) : Bool) = neg := ⟨_, rfl⟩
  have c1 := fun W h' => float_num u hu m hm h F up dn neg hF hup hdn hneg W h'
  have q1 := fromBits u
  have h1 : ¬ (m : Int) < 0 := by omega
  have h2 : ¬ (40 : Int) < m := by omega
  have o1 : FloatKind.f64.format.order u u = some .eq := order_self (fun g => by omega)
  have b1 := binSub_num (sub_num h)
  have o3 : FloatKind.f64.format.order 0 0 = some .eq := order_zero
  go_enter Tryd.func10, Tryd.ntmps10
  go_wp2_with fail
  refine (wakes_any _).mono ?_
  rintro e w1 ⟨rfl, hBw⟩
  have hP1 := hP.on hBw
  go_wp2_with fail
  refine (c1 _ hP1).mono ?_
  rintro e w2 ⟨rfl, hB2⟩
  generalize hR : madeR neg (fltM F up dn m neg) m = R at *
  obtain ⟨R1, R2, R3, R4⟩ := R
  have kd := Blk.new w2 #[Value.bool R1, .string R2, .int .i64 R3] 23
  have hBw := (hBw.trans (hB2.mono hBw.size)).alloc (by have := hBw.size; have := hB2.size; omega) (.cells #[Value.bool R1, .string R2, .int .i64 R3] 23)
  clear hB2 c1
  have HNEG := Lib.hid hneg; have KD := Lib.hid kd; have HB := Lib.hid hBw; have HR := Lib.hid hR
  have hfr : ffr u < 4503599627370496 := Nat.mod_lt _ (by decide)
  have q2 : (u : Int) / 4503599627370496 % 2048 = ((fexp u : Nat) : Int) := by unfold fexp; omega
  have q3 : (u : Int) % 4503599627370496 = ((ffr u : Nat) : Int) := by unfold ffr; omega
  clear hP hP1 hneg hBw hR
  go_upto_if 57 with fail
  generalize hw3 : w2.alloc (.cells #[Value.bool R1, Value.string R2, Value.int .i64 R3] 23) = w3 at *
  obtain ⟨x, hx⟩ : ∃ x, fexp u - 1 = x := ⟨_, rfl⟩
  have hEF : (fexp u = 0 ∧ F = ffr u ∧ x = 0) ∨ (1 ≤ fexp u ∧ F = ffr u + 4503599627370496 ∧ x = fexp u - 1) := by
    by_cases h0 : fexp u = 0
    · exact .inl ⟨h0, by rw [hF, if_pos h0], by omega⟩
    · exact .inr ⟨by omega, by rw [hF, if_neg h0], hx.symm⟩
  rw [hx] at hup hdn
  have hFl : F < 9007199254740992 := by omega
  clear hF q1 hw3 o1 o3 b1
  generalize fexp u = E at *
  generalize ffr u = f at *
  go_cut [8, 9] (fun s8 s9 wx => s8 = .int .u64 (F : Int) ∧ s9 = .int .i64 (x : Int) ∧ wx = w3)
  case first =>
    rcases hEF with ⟨rfl, rfl, rfl⟩ | ⟨hE1, rfl, rfl⟩
    · go_wp2_with fail
      go_meet
      case rel => exact ⟨by go_num, by go_num, rfl⟩
    · have hE2 : (0 : Int) < E := by omega
      have q5 : (E : Int) - 1 = ((E - 1 : Nat) : Int) := by omega
      go_wp2_with fail
      go_meet
      case rel => exact ⟨by go_num, by go_num, rfl⟩
  case rest =>
    obtain ⟨rfl, rfl, rfl⟩ := hcut
    have hudx : x ≤ 2045 ∧ (up = 0 ∨ dn = 0) ∧ up ≤ 971 ∧ dn ≤ 1074 := by omega
    have i1 : IntKind.i64.wrap (1074 - (x : Int)) = 1074 - (x : Int) := IntWalk.i64_in _ (by omega)
    have i2 : IntKind.i64.wrap ((x : Int) - 1074) = (x : Int) - 1074 := IntWalk.i64_in _ (by omega)
    have i3 : max (0 : Int) (1074 - (x : Int)) = (dn : Int) := by omega
    have i4 : max (0 : Int) ((x : Int) - 1074) = (up : Int) := by omega
    have c2 := fun W => rFloat_any F dn up hFl (by omega) (by omega) W
    clear hEF hup hdn hx q2 q3
    go_wp2_with fail
    refine (c2 _).mono ?_
    rintro e w4 ⟨v, l, rfl, hI, h10, hval, hlen, hB4⟩
    have HV := Lib.hid hval; have H10 := Lib.hid h10; have HI := Lib.hid hI; have HB4 := Lib.hid hB4
    have c3 := fun W hi c h1 h2 => rRound_any neg v l c 1 W hi h10 (by omega) h1 h2
    clear c2 hval h10 hI hB4 i1 i2 i3 i4
    go_upto_if 78 with fail
    rw [HNEG.out]
    have HC3 := Lib.hid c3
    clear c3
    have hbw4 := HB.out.trans (HB4.out.mono HB.out.size)
    have kd4 := kd.on HB4.out
    have HBW := Lib.hid hbw4; have HKD := Lib.hid kd4
    have HIs : dn ≤ m ∨ m < dn := by omega
    clear hbw4 kd4 kd KD
    go_cut [10, 11] (fun s10 s11 wx => ∃ (b : Nat) (r : List Nat), s11 = .int .i64 (b : Int) ∧ b ≤ m ∧ Ints wx s10 r ∧ (∀ d ∈ r, d < 10) ∧ rowval r * 10 ^ (m - b) = fltM F up dn m neg ∧ r.length ≤ 30000 ∧ (b < m → 1 ≤ r.length) ∧ Blk wx w2.heap.size #[Value.bool R1, Value.string R2, Value.int .i64 R3] ∧ Below w.heap.size w wx)
    case first =>
      rcases HIs with h3 | h3
      · have h4 : ¬ (m : Int) < dn := by omega
        go_wp2_with fail
        go_meet
        case rel => exact ⟨dn, l, rfl, h3, HI.out, H10.out, by rw [HV.out]; unfold fltM fltN; rw [if_neg (by omega)], by omega, fun _ => hlen.1, HKD.out, HBW.out⟩
      · have h4 : (m : Int) < dn := by omega
        have i1 : IntKind.i64.wrap ((dn : Int) - m) = ((dn - m : Nat) : Int) := by rw [show (dn : Int) - m = ((dn - m : Nat) : Int) by omega]; exact IntWalk.i64_in _ (by omega)
        go_wp2_with fail
        refine (HC3.out _ HI.out _ (by omega) (by omega)).mono ?_
        rintro e w5 ⟨v5, rfl, hr5, hB5⟩
        have hr5 := hr5.ints
        have hk5 := HKD.out.on hB5
        have hb5 := HBW.out.trans (hB5.mono HBW.out.size)
        have hl5 := roundL_length neg l (dn - m) 1
        have h105 := roundL_lt (neg := neg) (c := dn - m) (mode := 1) H10.out
        have hv5 := roundL_V (neg := neg) H10.out (dn - m) 1
        rw [HV.out] at hv5
        generalize roundL neg l (dn - m) 1 = r at *
        have H5 := Lib.hid hr5; have HL5 := Lib.hid hl5; have HV5 := Lib.hid hv5; have H105 := Lib.hid h105
        clear hr5 hl5 h105 hv5
        go_wp2_with fail
        go_meet
        case rel => exact ⟨m, r, rfl, Nat.le_refl _, H5.out, H105.out, by rw [HV5.out, Nat.sub_self, Nat.pow_zero, Nat.mul_one]; unfold fltM fltN; rw [if_pos (by omega)], by have := HL5.out; omega, fun h => absurd h (by omega), hk5, hb5⟩
    case rest =>
      obtain ⟨b0, r0, rfl, hb0, hI0, h00, hv0, hl0, hp0, hk0, hB0⟩ := hcut
      have HK0 := Lib.hid hk0; have HB0 := Lib.hid hB0; have HI0 := Lib.hid hI0; have H00 := Lib.hid h00; have HV0 := Lib.hid hv0; have HP0 := Lib.hid hp0
      clear hI0 h00 hv0 hp0 hk0 hB0 HC3 HB4 HI H10 HV HBW HKD HB
      go_wp2_with fail
      go_loopg [10, 11] (m - b0) (fun g s10 s11 wr => ∃ (b : Nat) (r : List Nat), b + g = m ∧ s11 = .int .i64 (b : Int) ∧ Ints wr s10 r ∧ (∀ d ∈ r, d < 10) ∧ rowval r * 10 ^ g = fltM F up dn m neg ∧ r.length ≤ 30000 + b ∧ (0 < g → 1 ≤ r.length) ∧ Blk wr w2.heap.size #[Value.bool R1, Value.string R2, Value.int .i64 R3] ∧ Below w.heap.size w wr)
      case atStart => exact ⟨b0, r0, by omega, rfl, HI0.out, H00.out, HV0.out, by omega, fun h => HP0.out (by omega), HK0.out, HB0.out⟩
      case round =>
        obtain ⟨b, r, hb, rfl, hI, h10, hv, hl, hp, hk, hB⟩ := hrel
        have HI := Lib.hid hI; have H10 := Lib.hid h10; have HV := Lib.hid hv; have HK := Lib.hid hk
        have hz := hB.size
        cases gk with
        | zero =>
          have hbm : ¬ (b : Int) < m := by omega
          have c4 := fun W hi => rMade_ints neg u10 r m W H10.out (by omega) hi
          rw [show rowval r = fltM F up dn m neg by rw [← HV.out, Nat.pow_zero, Nat.mul_one], HR.out] at c4
          have i9 := fun W => isSame R1 R2 R3 R4 W
          clear hv hb hp h10 hk
          go_wp2_with fail
          refine (c4 _ HI.out).mono ?_
          rintro e w6 ⟨rfl, hB6⟩
          have kd := HK.out.on hB6
          have hB := hB.trans (hB6.mono hz)
          have kn := Blk.new w6 #[Value.bool R1, Value.string R2, Value.int .i64 R3] 23
          have kd := kd.alloc (.cells #[Value.bool R1, Value.string R2, Value.int .i64 R3] 23)
          have hB := hB.alloc hB.size (.cells #[Value.bool R1, Value.string R2, Value.int .i64 R3] 23)
          clear hB6 c4
          have cd := kd.cell
          have cn := kn.cell
          go_wp2_with fail
          refine (i9 _).mono ?_
          rintro e w7 ⟨rfl, hB7⟩
          have hB := hB.trans (hB7.mono hB.size)
          clear cd cn kn kd
          go_wp2_with fail
          go_ret
          exact ⟨rfl, hB⟩
        | succ g =>
          have hbm : (b : Int) < m := by omega
          have hp := hp (by omega)
          rcases hI with ⟨rfl, _⟩ | ⟨gb, o, cap, rfl, hgb, hcap, hmx, hcell⟩
          · simp at hp
          have hrow := IntRow.lit wr 0
          have hcell' : ∀ j (hj : j < r.length), (wr.alloc (.cells #[.int .i64 ((0 : Nat) : Int)] 3)).cell? ⟨gb, o + j, none⟩ = some (.int .i64 (r[j] : Int)) := fun j hj => (((Below.refl wr.heap.size wr).alloc (Nat.le_refl _) _).cell (p := ⟨gb, o + j, none⟩) hgb).trans (hcell j hj)
          have HROW := Lib.hid hrow; have HCELL := Lib.hid hcell'
          have hBa := (Below.refl wr.heap.size wr).alloc (Nat.le_refl _) (.cells #[.int .i64 ((0 : Nat) : Int)] 3)
          have HBA := Lib.hid hBa
          have hle : [0].length + r.length ≤ 1000000000000 := by simp; omega
          clear hv hcell hcell' h10 hk hrow hBa
          go_wp2_with (at_builtin; go_must (refine wpList_spread_int (W0 := wr) (B := wr.heap.size) rfl _ _ rfl wr.heap.size _ [0] r gb o cap rfl HROW.out rfl HCELL.out hle HBA.out (Nat.le_refl _) (by simp) ?_); intro v' w5 hrow5 hB5)
          go_roundg g
          case rel =>
            refine ⟨b + 1, [0] ++ r, by omega, by push_cast; rfl, hrow5.ints, ?_, ?_, by simp; omega, fun _ => by simp, HK.out.on hB5, hB.trans (hB5.mono hz)⟩
            · intro d hd
              rcases List.mem_append.1 hd with h | h
              · have : d = 0 := by simpa using h
                omega
              · exact H10.out d h
            · rw [← HV.out, show ([0] : List Nat) = List.replicate 1 0 from rfl, rowval_zeros_app, Nat.pow_one, Nat.pow_succ, Nat.mul_assoc, Nat.mul_comm 10]
          case measure => omega

theorem decFloats_walk (x sc : Int) (w : World) (h0 : 0 ≤ x) (h1 : x ≤ 18446744073709551615) (_ : -9223372036854775808 ≤ sc) (_ : sc ≤ 9223372036854775807) (hP : PowTab w) :
    Calls Tryd.prog 10 #[.int .u64 x, .int .i64 sc] w fun e w' => e = .returned (.bool true) ∧ Below w.heap.size w w' := by
  obtain ⟨u, rfl⟩ : ∃ u : Nat, x = u := ⟨x.toNat, by omega⟩
  by_cases h : sc < 0 ∨ 40 < sc
  · exact floats_arg u sc w h
  · obtain ⟨m, rfl⟩ : ∃ m : Nat, sc = m := ⟨sc.toNat, by omega⟩
    have hl := fexp_le u
    by_cases hf : fexp u = 2047
    · exact floats_far u (by omega) m (by omega) hf w
    · exact floats_num u (by omega) m (by omega) (by omega) w hP
end Go.Proofs.YtgccppilhbannaaDoor
