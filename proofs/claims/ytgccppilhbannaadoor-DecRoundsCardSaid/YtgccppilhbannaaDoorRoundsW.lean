/-
  The walk of DecRounds.
-/
import Derived.Test.YtgccppilhbannaaDoorRound
import Derived.Test.YtgccppilhbannaaDoorRefRound
import Derived.Test.YtgccppilhbannaaDoorOperandsW
import Derived.Test.YtgccppilhbannaaDoorCutZ
import Derived.Deep.RegionWith
namespace Go.Proofs.YtgccppilhbannaaDoor
open Go.RowKit Go.PlainAid

set_option maxRecDepth 100000 in
set_option maxHeartbeats 1000000 in
theorem is_same (n : Bool) (s : ByteArray) (c e : Int) (w : World) :
    Calls Tryd.prog 25 #[.agg #[.bool n, .string s, .int .i64 c], .int .i64 e, .agg #[.bool n, .string s, .int .i64 c], .int .i64 e] w fun e w' => e = .returned (.bool true) ∧ Below w.heap.size w w' := by
  go_enter Tryd.func25, Tryd.ntmps25
  go_wp2_with fail
  go_ret
  exact ⟨by simp, ((Below.refl _ _).alloc (Nat.le_refl _) _).alloc (by simp) _⟩

set_option maxRecDepth 100000 in
set_option maxHeartbeats 2000000 in
theorem rounds_no (neg : Bool) (ds : ByteArray) (sc scale mode : Int) (w : World) (h : rightB neg ds sc = false ∨ scale < 0 ∨ 400 < scale) :
    Calls Tryd.prog 5 #[.agg #[.bool neg, .string ds, .int .i64 sc], .int .i64 scale, .int .i64 mode] w fun e w' => e = .returned (.bool true) ∧ Below w.heap.size w w' := by
  have c1 := fun W => round_no neg ds sc scale mode W h
  have c2 := fun W => pad_no neg ds sc scale W h
  have c3 := fun W => trim_no neg ds sc scale W h
  have hrr := fun W => rRight_any neg ds sc W
  have hcase : rightB neg ds sc = false ∨ (rightB neg ds sc = true ∧ scale < 0) ∨ (rightB neg ds sc = true ∧ 400 < scale) := by
    cases hr : rightB neg ds sc with
    | false => exact .inl rfl
    | true =>
      rw [hr] at h
      rcases h with h | h | h
      · cases h
      · exact .inr (.inl ⟨rfl, h⟩)
      · exact .inr (.inr ⟨rfl, h⟩)
  clear h
  have i1 := fun W => is_same false ⟨#[]⟩ 0 2 W
  rcases hcase with hr | ⟨hr, h⟩ | ⟨hr, h⟩
  all_goals
    rw [hr] at hrr
    clear hr
    go_enter Tryd.func5, Tryd.ntmps5
    go_wp2_with fail
    refine (wakes_any _).mono ?_
    rintro e w1 ⟨rfl, hB1⟩
    have ka := (Blk.new w _ _).on hB1
    have hBw := ((Below.refl w.heap.size w).alloc (Nat.le_refl _) _).trans (hB1.mono (by simp))
    clear hB1
    have ca := ka.cell
    go_wp2_with fail
    refine (c1 _).mono ?_
    rintro e w2 ⟨rfl, hB2⟩
    have ka := ka.on hB2
    have hBw := hBw.trans (hB2.mono hBw.size)
    clear hB2 ca
    have ca := ka.cell
    have la := ka.lt
    go_wp2_with fail
    refine (c2 _).mono ?_
    rintro e w3 ⟨rfl, hB3⟩
    have kr := (Blk.new w2 _ _).on hB3
    have ka := (ka.alloc _).on hB3
    have hBw := (hBw.alloc hBw.size _).trans (hB3.mono (by have := hBw.size; simp; omega))
    clear hB3 ca la
    have ca := ka.cell
    have la := ka.lt
    go_wp2_with fail
    refine (c3 _).mono ?_
    rintro e w4 ⟨rfl, hB4⟩
    have kp := (Blk.new w3 _ _).on hB4
    have kr := (kr.alloc _).on hB4
    have ka := (ka.alloc _).on hB4
    have hBw := (hBw.alloc hBw.size _).trans (hB4.mono (by have := hBw.size; simp; omega))
    clear hB4 ca la
    have ca := ka.cell
    have la := ka.lt
    have la' : w.heap.size < w4.heap.size + 1 := Nat.lt_succ_of_lt la
    go_wp2_with fail
    refine (hrr _).mono ?_
    rintro e w5 ⟨rfl, hB5⟩
    have kt := ((Blk.new w4 _ _).alloc _).on hB5
    have kn := (Blk.new' (w4.alloc _) _ _ (w4.heap.size + 1) (by simp)).on hB5
    have kp := ((kp.alloc _).alloc _).on hB5
    have kr := ((kr.alloc _).alloc _).on hB5
    have hBw := ((hBw.alloc hBw.size _).alloc (by have := hBw.size; simp; omega) _).trans (hB5.mono (by have := hBw.size; simp; omega))
    clear hB5 ca la la'
    have ck := kr.cell
    have cn := kn.cell
    go_wp2_with fail
    refine (i1 _).mono ?_
    rintro e w6 ⟨rfl, hB6⟩
    have kt := kt.on hB6
    have kn := kn.on hB6
    have kp := kp.on hB6
    have hBw := hBw.trans (hB6.mono hBw.size)
    clear hB6 ck cn
    have ck := kp.cell
    have cn := kn.cell
    go_wp2_with fail
    refine (i1 _).mono ?_
    rintro e w7 ⟨rfl, hB7⟩
    have kt := kt.on hB7
    have kn := kn.on hB7
    have hBw := hBw.trans (hB7.mono hBw.size)
    clear hB7 ck cn
    have ck := kt.cell
    have cn := kn.cell
    go_wp2_with fail
    refine (i1 _).mono ?_
    rintro e w8 ⟨rfl, hB8⟩
    have hBw := hBw.trans (hB8.mono hBw.size)
    go_wp2_with fail
    go_ret
    exact ⟨rfl, hBw⟩

theorem roundL_N {neg : Bool} {ds : ByteArray} (hd : AllDig ds) (c : Nat) (mode : Int) : rowval (roundL neg ((dl ds).reverse) c mode) = roundN neg (dval ds) c mode := by
  have h10 : ∀ d ∈ (dl ds).reverse, d < 10 := fun d hdd => dl_lt hd d (by simpa using hdd)
  have hv : rowval ((dl ds).reverse) = dval ds := rfl
  have h1 := rowval_split ((dl ds).reverse) c
  have h2 := rowval_pad_lt h10 c
  rw [hv] at h1
  have hp : 0 < 10 ^ c := Nat.pow_pos (by decide)
  have e1 : rowval (((dl ds).reverse).drop c) = dval ds / 10 ^ c := by rw [h1, Nat.add_mul_div_left _ _ hp, Nat.div_eq_of_lt h2, Nat.zero_add]
  have e2 : rowval (((dl ds).reverse).take c) = dval ds % 10 ^ c := by rw [h1, Nat.add_mul_mod_self_left, Nat.mod_eq_of_lt h2]
  rw [roundL_val h10, e1, e2]
  rfl
theorem Hold1.on {B : Nat} {w0 : World} {b0 : Nat} {c0 : Array Value} {w' w'' : World} (h : Hold1 B w0 b0 c0 w') (hB : Below w'.heap.size w' w'') (h1 : b0 < B) (h2 : B ≤ w0.heap.size) : Hold1 B w0 b0 c0 w'' :=
  have hz : B ≤ w'.heap.size := Nat.le_trans h2 h.2.size
  ⟨fun o => (hB.cell (p := ⟨b0, o, none⟩) (Nat.lt_of_lt_of_le h1 hz)).trans (h.1 o), h.2.trans (hB.mono hz)⟩
theorem Hold1.alloc {B : Nat} {w0 : World} {b0 : Nat} {c0 : Array Value} {w' : World} (h : Hold1 B w0 b0 c0 w') (h1 : b0 < B) (h2 : B ≤ w0.heap.size) (o : Obj) : Hold1 B w0 b0 c0 (w'.alloc o) := h.on ((Below.refl _ _).alloc (Nat.le_refl _) _) h1 h2
theorem hold_callE {P : Program} {f : FuncId} {args : Array Value} {B : Nat} {w0 : World} {b0 : Nat} {c0 : Array Value} {b1 : Nat} {c1 : Array Value} {W : World} {l : List Nat} (h : Calls P f args W fun e w' => ∃ v, e = .returned v ∧ IntRow W.heap.size w' v l ∧ Below W.heap.size W w') (hS : Hold2 B w0 b0 c0 b1 c1 W) :
    Calls P f args W fun e w' => ∃ v, e = .returned v ∧ IntRow W.heap.size w' v l ∧ Hold2 B w0 b0 c0 b1 c1 w' := h.mono fun _ _ ⟨v, e, hr, hB⟩ => ⟨v, e, hr, hS.on hB⟩

set_option maxRecDepth 100000 in
set_option maxHeartbeats 16000000 in
theorem rounds_yes (neg : Bool) (ds : ByteArray) (k m : Nat) (mode : Int) (w : World) (hr : rightB neg ds k = true) (hm : m ≤ 400) :
    Calls Tryd.prog 5 #[.agg #[.bool neg, .string ds, .int .i64 k], .int .i64 m, .int .i64 mode] w fun e w' => e = .returned (.bool true) ∧ Below w.heap.size w w' := by
  obtain ⟨h1, h2, h3, h4, _, hd⟩ := of_decide_eq_true hr
  have c1' : ∃ rr : Bool × ByteArray × Int × Int, (∀ W, Calls Tryd.prog 22 #[.agg #[.bool neg, .string ds, .int .i64 k], .int .i64 m, .int .i64 mode] W fun e w' => e = .returned (decE rr) ∧ Below W.heap.size W w') ∧ ((mode < 1 ∨ 6 < mode) → rr = (false, ⟨#[]⟩, 0, 2)) ∧ (1 ≤ mode → mode ≤ 6 → k ≤ m → rr = (neg, ds, (k : Int), 0)) ∧ (1 ≤ mode → mode ≤ 6 → m < k → rr = madeR neg (roundN neg (dval ds) (k - m) mode) m) := by
    by_cases g1 : mode < 1
    · exact ⟨_, fun W => round_mode1 neg ds k m mode W hr hm g1, fun _ => rfl, fun a => absurd a (by omega), fun a => absurd a (by omega)⟩
    · by_cases g2 : 6 < mode
      · exact ⟨_, fun W => round_mode2 neg ds k m mode W hr hm g2, fun _ => rfl, fun _ a => absurd a (by omega), fun _ a => absurd a (by omega)⟩
      · by_cases g3 : k ≤ m
        · exact ⟨_, fun W => round_same neg ds k m mode W hr hm g3 (by omega) (by omega), fun a => absurd a (by omega), fun _ _ _ => rfl, fun _ _ a => absurd a (by omega)⟩
        · exact ⟨_, fun W => round_cut neg ds k m mode W hr (by omega) (by omega) (by omega), fun a => absurd a (by omega), fun _ _ a => absurd a (by omega), fun _ _ _ => rfl⟩
  have c2' : ∃ pp : Bool × ByteArray × Int × Int, (∀ W, Calls Tryd.prog 23 #[.agg #[.bool neg, .string ds, .int .i64 k], .int .i64 m] W fun e w' => e = .returned (decE pp) ∧ Below W.heap.size W w') ∧ (k < m → pp = madeR neg (dval ds * 10 ^ (m - k)) m) ∧ (m ≤ k → pp = (neg, ds, (k : Int), 0)) := by
    by_cases g : k < m
    · exact ⟨_, fun W => pad_less neg ds k m W hr hm g, fun _ => rfl, fun a => absurd a (by omega)⟩
    · exact ⟨_, fun W => pad_same neg ds k m W hr hm (by omega), fun a => absurd a g, fun _ => rfl⟩
  obtain ⟨rr, c1, hr1, hr2, hr3⟩ := c1'
  obtain ⟨pp, c2, hp1, hp2⟩ := c2'
  have c3 := fun W => trim_yes neg ds k m W hr hm
  have hrr := fun W => rRight_is hr W
  have HR1 := Lib.hid hr1; have HR2 := Lib.hid hr2; have HR3 := Lib.hid hr3; have HP1 := Lib.hid hp1; have HP2 := Lib.hid hp2
  have HRT := Lib.hid hr; have HD := Lib.hid hd
  clear hr1 hr2 hr3 hp1 hp2 hr hd
  obtain ⟨tF, htF⟩ : ∃ t, trimF (k - m) ds = t := ⟨_, rfl⟩
  obtain ⟨tK, htK⟩ : ∃ t : Int, (k : Int) - trimK (k - m) ds = t := ⟨_, rfl⟩
  rw [htF, htK] at c3
  have HTF := Lib.hid htF; have HTK := Lib.hid htK
  clear htF htK
  go_enter Tryd.func5, Tryd.ntmps5
  go_wp2_with fail
  refine (wakes_any _).mono ?_
  rintro e w1 ⟨rfl, hB1⟩
  have ka := (Blk.new w _ _).on hB1
  have hBw := ((Below.refl w.heap.size w).alloc (Nat.le_refl _) _).trans (hB1.mono (by simp))
  clear hB1
  have ca := ka.cell
  go_wp2_with fail
  refine (c1 _).mono ?_
  rintro e w2 ⟨rfl, hB2⟩
  have ka := ka.on hB2
  have hBw := hBw.trans (hB2.mono hBw.size)
  clear hB2 ca c1
  have ca := ka.cell
  have la := ka.lt
  go_wp2_with fail
  refine (c2 _).mono ?_
  rintro e w3 ⟨rfl, hB3⟩
  have kr := (Blk.new w2 _ _).on hB3
  have ka := (ka.alloc _).on hB3
  have hBw := (hBw.alloc hBw.size _).trans (hB3.mono (by have := hBw.size; simp; omega))
  clear hB3 ca la c2
  have ca := ka.cell
  have la := ka.lt
  go_wp2_with fail
  refine (c3 _).mono ?_
  rintro e w4 ⟨rfl, hB4⟩
  have kp := (Blk.new w3 _ _).on hB4
  have kr := (kr.alloc _).on hB4
  have ka := (ka.alloc _).on hB4
  have hBw := (hBw.alloc hBw.size _).trans (hB4.mono (by have := hBw.size; simp; omega))
  clear hB4 ca la c3
  have ca := ka.cell
  have la := ka.lt
  have la' : w.heap.size < w4.heap.size + 1 := Nat.lt_succ_of_lt la
  go_wp2_with fail
  refine (hrr _).mono ?_
  rintro e w5 ⟨rfl, hB5⟩
  have ka := ((ka.alloc _).alloc _).on hB5
  have kt := ((Blk.new w4 _ _).alloc _).on hB5
  have kn := (Blk.new' (w4.alloc _) _ _ (w4.heap.size + 1) (by simp)).on hB5
  have kp := ((kp.alloc _).alloc _).on hB5
  have kr := ((kr.alloc _).alloc _).on hB5
  have hBw := ((hBw.alloc hBw.size _).alloc (by have := hBw.size; simp; omega) _).trans (hB5.mono (by have := hBw.size; simp; omega))
  clear hB5 ca la la' hrr
  have ca := ka.cell
  have la := ka.lt
  have hz5 := hBw.size
  go_upto_if 72 with fail
  go_cut [15] (fun s15 wx => s15 = .int .i64 pp.2.2.2 ∧ Blk wx w5.heap.size #[.bool pp.1, .string pp.2.1, .int .i64 pp.2.2.1] ∧ Below w5.heap.size w5 wx)
  case first =>
    have kq := Blk.new w5 #[Value.bool neg, .string ds, .int .i64 k] 23
    have kaq := ka.alloc (.cells #[Value.bool neg, .string ds, .int .i64 k] 23)
    have hBq : Below w5.heap.size w5 (w5.alloc (.cells #[Value.bool neg, .string ds, .int .i64 k] 23)) := (Below.refl _ _).alloc (Nat.le_refl _) _
    by_cases g : k < m
    · have hpp := HP1.out g
      have hS := Hold2.mk kaq kq hBq (Nat.le_refl _)
      have hrow := fun W => rRow_any neg ds k m W HD.out (by omega) (by omega) (by omega)
      rw [show ((m : Int) - (k : Int)).toNat = m - k by omega] at hrow
      have hmd := fun (W : World) (v : Value) (base : Nat) (hv : IntRow base W v (rowOf ds (m - k))) => rMade_any neg v (rowOf ds (m - k)) m base W (rowOf_lt HD.out _) (by rw [rowOf_length]; omega) hv
      rw [rowval_rowOf, ← hpp] at hmd
      clear hpp kq kaq hBq ca
      generalize w5.alloc (.cells #[Value.bool neg, .string ds, .int .i64 k] 23) = w6 at *
      obtain ⟨ca, _, _, _, _⟩ := id hS
      go_upto_region 11 with fail
      clear ca
      go_region_held3 (fun w' => (∀ o, w'.cell? ⟨w.heap.size, o, none⟩ = #[Value.bool neg, Value.string ds, Value.int .i64 k][o]?) ∧ Below w5.heap.size w5 w')
        (first | exact hS.one.drew | exact hS3.one | exact hS4.one | exact ((hS4.one.set w5.heap.size 0 _ (by omega) (Nat.le_refl _)).set w5.heap.size 1 _ (by omega) (Nat.le_refl _)).set w5.heap.size 2 _ (by omega) (Nat.le_refl _))
        (first
          | (go_at_call 20; refine (hold_callE (hrow _) hS.drew).mono ?_; rintro e w7 ⟨v, rfl, hr7, hS3⟩)
          | (go_at_call 21; refine (hold_call (hmd _ _ _ hr7) hS3).mono ?_; rintro e w8 ⟨rfl, hS4⟩; obtain ⟨_, _, q4, f4, _⟩ := id hS4))
      have hk8 := ((hS4.blk.2.set 0 (.bool pp.1)).set 1 (.string pp.2.1)).set 2 (.int .i64 pp.2.2.1)
      have hB8 := ((hS4.2.2.2.2.1.setCell (p := ⟨w5.heap.size, 0, none⟩) (Nat.le_refl _) (.bool pp.1)).setCell (p := ⟨w5.heap.size, 1, none⟩) (Nat.le_refl _) (.string pp.2.1)).setCell (p := ⟨w5.heap.size, 2, none⟩) (Nat.le_refl _) (.int .i64 pp.2.2.1)
      go_wp2_with fail
      go_meet
      case rel => exact ⟨rfl, hk8, hB8⟩
    · have hpp := HP2.out (by omega)
      subst hpp
      go_wp2_with fail
      go_meet
      case rel => exact ⟨rfl, kq, hBq⟩
  case rest =>
    obtain ⟨rfl, kq, hBx⟩ := hcut
    have i1 := fun W => is_same pp.1 pp.2.1 pp.2.2.1 pp.2.2.2 W
    have ka := ka.on hBx
    have kt := kt.on hBx
    have kn := kn.on hBx
    have kp := kp.on hBx
    have kr := kr.on hBx
    have hBw := hBw.trans (hBx.mono hBw.size)
    clear hBx ca
    have ck := kp.cell
    have cq := kq.cell
    go_wp2_with fail
    refine (i1 _).mono ?_
    rintro e w7 ⟨rfl, hB7⟩
    have ka := ka.on hB7
    have kt := kt.on hB7
    have kn := kn.on hB7
    have kr := kr.on hB7
    have hBw := hBw.trans (hB7.mono hBw.size)
    clear hB7 ck cq kq kp i1
    have ca := ka.cell
    have la := ka.lt
    go_upto_block 0 with fail
    go_cut [] (fun wx => Blk wx w7.heap.size #[.bool neg, .string tF, .int .i64 tK] ∧ Below w7.heap.size w7 wx)
    case first =>
      have kg := Blk.new w7 #[Value.bool neg, .string ds, .int .i64 k] 23
      have hBg : Below w7.heap.size w7 (w7.alloc (.cells #[Value.bool neg, .string ds, .int .i64 k] 23)) := (Below.refl _ _).alloc (Nat.le_refl _) _
      clear ca la ka kt kn kr hBw
      go_wp2_with fail
      generalize w7.alloc (.cells #[Value.bool neg, .string ds, .int .i64 k] 23) = w8 at *
      go_loopg [] k (fun j wr => j ≤ k ∧ (m ≤ j ∨ j = k) ∧ ∃ s : ByteArray, rightB neg s j = true ∧ Blk wr w7.heap.size #[Value.bool neg, .string s, .int .i64 j] ∧ Below w7.heap.size w7 wr ∧ trimF (k - m) ds = trimF (j - m) s ∧ trimK (k - m) ds + j = k + trimK (j - m) s)
      case atStart => exact ⟨Nat.le_refl _, .inr rfl, ds, HRT.out, kg, hBg, rfl, by omega⟩
      case round =>
        obtain ⟨hj, hjm, s, hrs, kar, hB, hF, hK⟩ := hrel
        obtain ⟨q1, q2, q3, q4, _, qd⟩ := of_decide_eq_true hrs
        have HF := Lib.hid hF; have HK := Lib.hid hK; have HRS := Lib.hid hrs; have HQD := Lib.hid qd
        clear hF hK hrs qd
        have hb := get_bt s
        have ca := kar.cell
        have fa := kar.free
        by_cases hgo : m < gk ∧ bt s (s.size - 1) = 48
        · obtain ⟨hmg, h48⟩ := hgo
          have hF2 : trimF (gk - m) s = trimF (gk - 1 - m) (cutZ s) := by
            rw [show gk - m = (gk - 1 - m) + 1 by omega]
            show (if bt s (s.size - 1) = 48 then _ else _) = _
            rw [if_pos h48]
          have hK2 : trimK (gk - m) s = 1 + trimK (gk - 1 - m) (cutZ s) := by
            rw [show gk - m = (gk - 1 - m) + 1 by omega]
            show (if bt s (s.size - 1) = 48 then _ else _) = _
            rw [if_pos h48]
          have hcz := cutZ_made HRS.out h48 (by omega)
          have hx : (bt s (s.size - 1) == 48) = true := by simpa using h48
          have HF2 := Lib.hid hF2; have HK2 := Lib.hid hK2
          have hrow := fun W => rRow_any neg s gk gk W HQD.out (by omega) (by omega) (by omega)
          rw [show ((gk : Int) - (gk : Int)).toNat = 0 by omega] at hrow
          change ∀ W, Calls _ _ _ _ (fun e w' => ∃ v, e = .returned v ∧ IntRow W.heap.size w' v ((dl s).reverse) ∧ Below W.heap.size W w') at hrow
          have hmd := fun (W : World) (v : Value) (hv : Ints W v (((dl s).reverse).drop 1)) => rMade_ints neg v (((dl s).reverse).drop 1) ((gk : Int) - 1) W (fun d hdd => dl_lt HQD.out d (by simpa using List.mem_of_mem_drop hdd)) (by simp [dl_length]; omega) hv
          rw [hcz.1] at hmd
          have HCZ := Lib.hid hcz.2
          have HMD := Lib.hid hmd
          clear h48 hF2 hK2 hcz hmd
          have hdl : (dl s).reverse.length = s.size := by rw [List.length_reverse, dl_length]
          go_wp2_with fail
          refine (hrow _).mono ?_
          rintro e w9 ⟨v, rfl, hr9, hB9⟩
          have hI := hr9.ints
          rcases hr9.read with ⟨e, _⟩ | ⟨g, cap, rfl, _, hg, hcap, hmax, _⟩
          · rw [e] at hdl; simp at hdl; omega
          have hcz9 := hr9
          clear hr9 hcz9 hrow
          have hIp : Ints w9 (.slice (if cap = 1 then some ⟨g, 0, none⟩ else some ⟨g, 1, none⟩) (s.size - 1) (cap - 1)) (((dl s).reverse).drop 1) := by
            by_cases h1 : cap = 1
            · rw [if_pos h1]
              have : s.size = 1 := by omega
              exact .inl ⟨List.drop_of_length_le (by omega), _, _, by rw [this]⟩
            · rw [if_neg h1]
              have h := Ints.part (cap' := cap - 1) hI (by omega) 1 s.size (by omega) (by omega) (by omega) (s.size - 1) rfl
              rw [List.take_of_length_le (by omega), Nat.zero_add] at h
              exact h
          obtain ⟨A, hA⟩ : ∃ A : Option Addr, (if cap = 1 then some ⟨g, 0, none⟩ else some ⟨g, 1, none⟩) = A := ⟨_, rfl⟩
          rw [hA] at hIp
          rw [hdl] at hI hcap ⊢
          have HDL := Lib.hid hdl
          clear hI hdl
          have kar9 := kar.on hB9
          have hB9w := hB.trans (hB9.mono hB.size)
          clear ca fa kar
          have ca := kar9.cell
          have fa := kar9.free
          clear hB9
          go_wp2_with fail
          have i2 : IntKind.i64.wrap ((gk : Int) - 1) = (gk : Int) - 1 := IntWalk.i64_in _ (by omega)
          have i3 : (1 : Int) ≤ (s.size : Int) := by omega
          go_region_with (first
            | (go_at_call 21; refine (HMD.out _ _ (hIp.later ((Below.refl _ _).drew) (Nat.le_refl _))).mono ?_; rintro e w10 ⟨rfl, hB10⟩; have ca10 := (kar9.drew.on hB10).cell; have fa10 := (kar9.drew.on hB10).free))
          all_goals
            have kar10 := (((kar9.drew.on hB10).set 0 (.bool neg)).set 1 (.string (cutZ s))).set 2 (.int .i64 ((gk : Int) - 1))
            have hB10w := (((hB9w.drew.trans (hB10.mono hB9w.drew.size)).setCell (p := ⟨w7.heap.size, 0, none⟩) (Nat.le_refl _) (.bool neg)).setCell (p := ⟨w7.heap.size, 1, none⟩) (Nat.le_refl _) (.string (cutZ s))).setCell (p := ⟨w7.heap.size, 2, none⟩) (Nat.le_refl _) (.int .i64 ((gk : Int) - 1))
            go_wp2_with fail
            go_roundg (gk - 1)
            case rel => exact ⟨by omega, .inl (by omega), cutZ s, HCZ.out, by rw [show ((gk - 1 : Nat) : Int) = (gk : Int) - 1 by omega]; exact kar10, hB10w, by rw [HF.out, HF2.out], by have := HK.out; have := HK2.out; omega⟩
            case measure => omega
        · have hR : trimF (k - m) ds = s ∧ trimK (k - m) ds + gk = k := by
            have hF := HF.out
            have hK := HK.out
            have h0 : trimF (gk - m) s = s ∧ trimK (gk - m) s = 0 := by
              by_cases h : m < gk
              · have h48 : ¬ bt s (s.size - 1) = 48 := fun e => hgo ⟨h, e⟩
                rw [show gk - m = (gk - 1 - m) + 1 by omega]
                exact ⟨if_neg h48, if_neg h48⟩
              · rw [show gk - m = 0 by omega]
                exact ⟨rfl, rfl⟩
            rw [h0.1] at hF
            rw [h0.2] at hK
            exact ⟨hF, hK⟩
          have hR1 : s = tF := hR.1.symm.trans HTF.out
          have hR2 : (gk : Int) = tK := by have := HTK.out; have := hR.2; omega
          rw [hR1, hR2] at kar
          have hdis : ¬ m < gk ∨ (m < gk ∧ (bt s (s.size - 1) == 48) = false) := by
            by_cases h : m < gk
            · exact .inr ⟨h, by simpa using fun e => hgo ⟨h, e⟩⟩
            · exact .inl h
          clear hgo hR hR1 hR2
          rcases hdis with h | ⟨h, hx⟩
          all_goals
            go_wp2_with fail
            go_meet
            case rel => exact ⟨kar, hB⟩
    case rest =>
      obtain ⟨kg, hBx⟩ := hcut
      have ka := ka.on hBx
      have kt := kt.on hBx
      have kn := kn.on hBx
      have kr := kr.on hBx
      have hBw := hBw.trans (hBx.mono hBw.size)
      clear hBx ca la
      have i1 := fun W => is_same neg tF tK 0 W
      have ck := kt.cell
      have cg := kg.cell
      go_wp2_with fail
      refine (i1 _).mono ?_
      rintro e w9 ⟨rfl, hB9⟩
      have ka := ka.on hB9
      have kn := kn.on hB9
      have kr := kr.on hB9
      have hBw := hBw.trans (hB9.mono hBw.size)
      clear hB9 ck cg kg kt i1
      have ca := ka.cell
      have ck := kr.cell
      have cn := kn.cell
      by_cases g1 : mode < 1
      · have hrr := HR1.out (.inl g1)
        subst hrr
        have i1 := fun W => is_same false ⟨#[]⟩ 0 2 W
        go_wp2_with fail
        refine (i1 _).mono ?_
        rintro e w10 ⟨rfl, hB10⟩
        have hBw := hBw.trans (hB10.mono hBw.size)
        go_wp2_with fail
        go_ret
        exact ⟨rfl, hBw⟩
      by_cases g2 : 6 < mode
      · have hrr := HR1.out (.inr g2)
        subst hrr
        have i1 := fun W => is_same false ⟨#[]⟩ 0 2 W
        go_wp2_with fail
        refine (i1 _).mono ?_
        rintro e w10 ⟨rfl, hB10⟩
        have hBw := hBw.trans (hB10.mono hBw.size)
        go_wp2_with fail
        go_ret
        exact ⟨rfl, hBw⟩
      by_cases g3 : k ≤ m
      · have hrr := HR2.out (by omega) (by omega) g3
        subst hrr
        have i1 := fun W => is_same neg ds k 0 W
        go_wp2_with fail
        refine (i1 _).mono ?_
        rintro e w10 ⟨rfl, hB10⟩
        have hBw := hBw.trans (hB10.mono hBw.size)
        go_wp2_with fail
        go_ret
        exact ⟨rfl, hBw⟩
      have hrr := HR3.out (by omega) (by omega) (by omega)
      have la := ka.lt
      obtain ⟨c, hc⟩ : ∃ c, k - m = c := ⟨_, rfl⟩
      have hcm : (k : Int) - m = c := by omega
      rw [hc, ← roundL_N HD.out] at hrr
      have h10 : ∀ d ∈ (dl ds).reverse, d < 10 := fun d hdd => dl_lt HD.out d (by simpa using hdd)
      have hlen : (dl ds).reverse.length = ds.size := by rw [List.length_reverse, dl_length]
      have hrow := fun W => rRow_any neg ds k k W HD.out (by omega) (by omega) (by omega)
      rw [show ((k : Int) - (k : Int)).toNat = 0 by omega] at hrow
      change ∀ W, Calls _ _ _ _ (fun e w' => ∃ v, e = .returned v ∧ IntRow W.heap.size w' v ((dl ds).reverse) ∧ Below W.heap.size W w') at hrow
      have hrd := fun (W : World) (v : Value) (hv : Ints W v ((dl ds).reverse)) => rRound_any neg v ((dl ds).reverse) c mode W hv h10 (by omega) (by omega) (by omega)
      have hmd := fun (W : World) (v : Value) (hv : Ints W v (roundL neg ((dl ds).reverse) c mode)) => rMade_ints neg v _ m W (roundL_lt h10) (by have := roundL_length neg ((dl ds).reverse) c mode; omega) hv
      rw [← hrr] at hmd
      have i1 := fun W => is_same rr.1 rr.2.1 rr.2.2.1 rr.2.2.2 W
      have i2 : IntKind.i64.wrap (c : Int) = c := IntWalk.i64_in _ (by omega)
      have HRD := Lib.hid hrd; have HMD := Lib.hid hmd
      clear hrr h10 hlen hrd hmd HR1 HR2 HR3 HP1 HP2 ck cn
      have hS : Hold1 w9.heap.size w9 w.heap.size #[Value.bool neg, .string ds, .int .i64 k] w9 := ⟨ka.cell, Below.refl _ _⟩
      go_upto_region 24 with fail
      go_cut [15, 18] (fun s15 s18 wx => s15 = .int .i64 rr.2.2.2 ∧ ∃ b, s18 = .pointer (some ⟨b, 0, none⟩) ∧ (∀ o, wx.cell? ⟨b, o, none⟩ = #[Value.bool rr.1, .string rr.2.1, .int .i64 rr.2.2.1][o]?) ∧ Below w9.heap.size w9 wx)
      case first =>
        clear ca kr kn hBw
        go_region_held3 (fun w' => (∀ o, w'.cell? ⟨w.heap.size, o, none⟩ = #[Value.bool neg, Value.string ds, Value.int .i64 k][o]?) ∧ Below w9.heap.size w9 w')
          (first | exact hH | exact hS.drew | exact Hold1.alloc hH la (Nat.le_refl _) _ | exact Hold1.alloc hS.drew la (Nat.le_refl _) _ | (have _g := kz9; exact ((hH.set w9.heap.size 0 _ (by omega) (Nat.le_refl _)).set w9.heap.size 1 _ (by omega) (Nat.le_refl _)).set w9.heap.size 2 _ (by omega) (Nat.le_refl _)) | (have _g := kz11; exact ((hH.set w11.heap.size 0 _ (by omega) lz11).set w11.heap.size 1 _ (by omega) lz11).set w11.heap.size 2 _ (by omega) lz11) | (have _g := kz12; exact ((hH.set w12.heap.size 0 _ (by omega) lz12).set w12.heap.size 1 _ (by omega) lz12).set w12.heap.size 2 _ (by omega) lz12) | exact (((Hold1.alloc hH la (Nat.le_refl _) _).set w13.heap.size 0 _ (by omega) lz13).set w13.heap.size 1 _ (by omega) lz13).set w13.heap.size 2 _ (by omega) lz13)
          (first
            | (go_at_call 20; refine (hrow _).mono ?_; rintro e w11 ⟨v, rfl, hr11, hB11⟩
               have hH : Hold1 w9.heap.size w9 w.heap.size #[Value.bool neg, .string ds, .int .i64 k] w11 := (by first | exact Hold1.on hS.drew hB11 la (Nat.le_refl _) | exact Hold1.on (Hold1.alloc hS.drew la (Nat.le_refl _) _) hB11 la (Nat.le_refl _))
               have lz11 : w9.heap.size ≤ w11.heap.size := hH.2.size
               first | have kz9 : Blk w11 w9.heap.size #[Value.bool false, Value.string ⟨#[]⟩, Value.int .i64 0] := (Blk.new w9.drew _ 23).on hB11 | skip)
            | (go_at_call 26; refine (HRD.out _ _ (by first | exact hr11.ints | exact hr11.ints.later ((Below.refl _ _).alloc (Nat.le_refl _) _) (Nat.le_refl _))).mono ?_; rintro e w12 ⟨v', rfl, hr12, hB12⟩
               have hH : Hold1 w9.heap.size w9 w.heap.size #[Value.bool neg, .string ds, .int .i64 k] w12 := (by first | exact Hold1.on hH hB12 la (Nat.le_refl _) | exact Hold1.on (Hold1.alloc hH la (Nat.le_refl _) _) hB12 la (Nat.le_refl _))
               have lz12 : w9.heap.size ≤ w12.heap.size := hH.2.size
               first | have kz9 := kz9.on hB12 | have kz11 : Blk w12 w11.heap.size #[Value.bool false, Value.string ⟨#[]⟩, Value.int .i64 0] := (Blk.new w11 _ 23).on hB12 | skip)
            | (go_at_call 21; refine (HMD.out _ _ (by first | exact hr12.ints | exact hr12.ints.later ((Below.refl _ _).alloc (Nat.le_refl _) _) (Nat.le_refl _))).mono ?_; rintro e w13 ⟨rfl, hB13⟩
               have hH : Hold1 w9.heap.size w9 w.heap.size #[Value.bool neg, .string ds, .int .i64 k] w13 := (by first | exact Hold1.on hH hB13 la (Nat.le_refl _) | exact Hold1.on (Hold1.alloc hH la (Nat.le_refl _) _) hB13 la (Nat.le_refl _))
               have lz13 : w9.heap.size ≤ w13.heap.size := hH.2.size
               first | have kz9 := kz9.on hB13 | have kz11 := kz11.on hB13 | have kz12 : Blk w13 w12.heap.size #[Value.bool false, Value.string ⟨#[]⟩, Value.int .i64 0] := (Blk.new w12 _ 23).on hB13 | skip
               first | (have cz := kz9.cell; have fz := kz9.free) | (have cz := kz11.cell; have fz := kz11.free) | (have cz := kz12.cell; have fz := kz12.free) | skip))
        · go_wp2_with fail
          go_meet
          case rel => first
            | exact ⟨rfl, w13.heap.size, rfl, (Blk.new w13 #[Value.bool rr.1, .string rr.2.1, .int .i64 rr.2.2.1] 23).cell, hH.2.alloc lz13 _⟩
            | exact ⟨rfl, w13.heap.size, rfl, ((((Blk.new w13 #[Value.bool false, .string ⟨#[]⟩, .int .i64 0] 23).set 0 (.bool rr.1)).set 1 (.string rr.2.1)).set 2 (.int .i64 rr.2.2.1)).cell, (((hH.2.alloc lz13 _).setCell (p := ⟨w13.heap.size, 0, none⟩) lz13 _).setCell (p := ⟨w13.heap.size, 1, none⟩) lz13 _).setCell (p := ⟨w13.heap.size, 2, none⟩) lz13 _⟩
        · go_wp2_with fail
          go_meet
          case rel => exact ⟨rfl, w12.heap.size, rfl, (((kz12.set 0 (.bool rr.1)).set 1 (.string rr.2.1)).set 2 (.int .i64 rr.2.2.1)).cell, ((hH.2.setCell (p := ⟨w12.heap.size, 0, none⟩) lz12 (.bool rr.1)).setCell (p := ⟨w12.heap.size, 1, none⟩) lz12 (.string rr.2.1)).setCell (p := ⟨w12.heap.size, 2, none⟩) lz12 (.int .i64 rr.2.2.1)⟩
        · go_wp2_with fail
          go_meet
          case rel => exact ⟨rfl, w11.heap.size, rfl, (((kz11.set 0 (.bool rr.1)).set 1 (.string rr.2.1)).set 2 (.int .i64 rr.2.2.1)).cell, ((hH.2.setCell (p := ⟨w11.heap.size, 0, none⟩) lz11 (.bool rr.1)).setCell (p := ⟨w11.heap.size, 1, none⟩) lz11 (.string rr.2.1)).setCell (p := ⟨w11.heap.size, 2, none⟩) lz11 (.int .i64 rr.2.2.1)⟩
        · go_wp2_with fail
          go_meet
          case rel => exact ⟨rfl, w9.heap.size, rfl, (((kz9.set 0 (.bool rr.1)).set 1 (.string rr.2.1)).set 2 (.int .i64 rr.2.2.1)).cell, ((hH.2.setCell (p := ⟨w9.heap.size, 0, none⟩) (Nat.le_refl _) (.bool rr.1)).setCell (p := ⟨w9.heap.size, 1, none⟩) (Nat.le_refl _) (.string rr.2.1)).setCell (p := ⟨w9.heap.size, 2, none⟩) (Nat.le_refl _) (.int .i64 rr.2.2.1)⟩
      case rest =>
        obtain ⟨rfl, b, rfl, cb, hBx⟩ := hcut
        have kr := kr.on hBx
        have hBw := hBw.trans (hBx.mono hBw.size)
        have ck := kr.cell
        clear ca hBx
        go_wp2_with fail
        refine (i1 _).mono ?_
        rintro e w10 ⟨rfl, hB10⟩
        have hBw := hBw.trans (hB10.mono hBw.size)
        go_wp2_with fail
        go_ret
        exact ⟨rfl, hBw⟩
end Go.Proofs.YtgccppilhbannaaDoor
