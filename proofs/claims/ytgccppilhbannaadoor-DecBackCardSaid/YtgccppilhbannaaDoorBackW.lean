/-
  The walk of DecBack.
-/
import Derived.Test.YtgccppilhbannaaDoorBackP
import Derived.Test.YtgccppilhbannaaDoorShift
namespace Go.Proofs.YtgccppilhbannaaDoor
open Go.RowKit Go.PlainAid

theorem digs_size_le {n m : Nat} (hn : n < 10 ^ m) (hm : 1 ≤ m) : (digs n).size ≤ m := by
  have hc := lowD_canon n
  have hv := rowval_lowD n
  have hsz : (digs n).size = (lowD n).length := by unfold digs; rw [textL_size, List.length_reverse]
  rw [hsz]
  apply Classical.byContradiction
  intro e
  have hl : m < (lowD n).length := by omega
  have h1 := getD_le (lowD n) ((lowD n).length - 1)
  rw [hv] at h1
  have h2 := hc.2.2 (by omega)
  rw [List.getLast?_eq_getElem?] at h2
  have h3 : (lowD n).getD ((lowD n).length - 1) 0 ≠ 0 := fun g => by
    apply h2
    rw [List.getD_eq_getElem?_getD, List.getElem?_eq_getElem (by omega)] at g
    rw [List.getElem?_eq_getElem (by omega)]
    exact congrArg some g
  have h4 : 10 ^ m ≤ 10 ^ ((lowD n).length - 1) := Nat.pow_le_pow_right (by decide) (by omega)
  have h5 : 10 ^ ((lowD n).length - 1) * 1 ≤ 10 ^ ((lowD n).length - 1) * (lowD n).getD ((lowD n).length - 1) 0 := Nat.mul_le_mul_left _ (by omega)
  omega
theorem made_small {n m : Nat} {sc : Int} (hn : n < 10 ^ m) (hm : 1 ≤ m) (hm4 : m ≤ 400) (h : sc ≤ 400) : madeR false n sc = (false, digs n, sc, 0) := by
  have h1 := digs_size_le hn hm
  unfold madeR
  rw [if_neg (by omega)]
  rfl
theorem small_is {n m k : Nat} (hn : n < 10 ^ m) (hm : 1 ≤ m) (hm4 : m ≤ 400) (h : k ≤ 400) : Is false (digs n) k n := by
  refine ⟨?_, by rw [dval_digs]; rfl⟩
  exact digs_right (neg := false) (Nat.le_trans (digs_size_le hn hm) hm4) (by omega) (by omega)
theorem printT_small {neg : Bool} {ds : ByteArray} {k : Nat} (h2 : ds.size ≤ 400) (h4 : k ≤ 400) : (printT neg ds k).size ≤ 1000 := by
  rw [← size_list, printT_list]
  unfold printL pointL
  have h1 := size_list ds
  have h3 := padL_length ds.data.toList k
  rw [Int.toNat_natCast, List.length_append]
  have e : (if neg = true then [45] else [] : List UInt8).length ≤ 1 := by split <;> simp
  by_cases hk : 0 < k
  · rw [if_pos hk, List.length_append, List.length_take, List.length_cons, List.length_drop]
    omega
  · rw [if_neg hk]
    omega

set_option maxRecDepth 100000 in
set_option maxHeartbeats 2000000 in
theorem back_no {neg : Bool} {ds : ByteArray} {k : Int} (h : rightB neg ds k = false) (w : World) :
    Calls Tryd.prog 8 #[.agg #[.bool neg, .string ds, .int .i64 k]] w fun e w' => e = .returned (.bool true) ∧ Below w.heap.size w w' := by
  have c1 := fun W => print_any neg ds k W
  have e1 : printR neg ds k = (⟨#[]⟩, 2) := by unfold printR; rw [h]; rfl
  rw [e1] at c1
  have c2 := fun W => check_no h W
  clear h e1
  go_enter Tryd.func8, Tryd.ntmps8
  go_wp2_with fail
  refine (wakes_any _).mono ?_
  rintro e w1 ⟨rfl, hB1⟩
  have ka := (Blk.new w _ _).on hB1
  have hBw := ((Below.refl w.heap.size w).alloc (Nat.le_refl _) _).trans (hB1.mono (by simp))
  clear hB1
  have ca := ka.cell
  go_wp2_with fail
  refine (c1 _).mono ?_
  rintro e w2 ⟨rfl, hB2⟩
  have ka := ka.on hB2
  have hBw := hBw.trans (hB2.mono hBw.size)
  clear hB2 ca c1
  have ca := ka.cell
  go_wp2_with fail
  refine (c2 _).mono ?_
  rintro e w3 ⟨rfl, hB3⟩
  have hBw := hBw.trans (hB3.mono hBw.size)
  clear hB3 ca c2
  go_wp2_with fail
  go_ret
  exact ⟨by first | rfl | (simp; done), hBw⟩

set_option maxRecDepth 100000 in
set_option maxHeartbeats 4000000 in
theorem back_yes {neg : Bool} {ds : ByteArray} {k : Nat} (h : rightB neg ds k = true) (w : World) :
    Calls Tryd.prog 8 #[.agg #[.bool neg, .string ds, .int .i64 k]] w fun e w' => e = .returned (.bool true) ∧ Below w.heap.size w w' := by
  obtain ⟨h1, h2, h3, h4, h5, h6⟩ := of_decide_eq_true h
  have hk : k ≤ 400 := by omega
  have c1 := fun W => print_yes neg ds k W h
  have c2 := fun W => parse_any (printT neg ds k) W (by have := printT_small (neg := neg) h2 hk; omega)
  rw [parse_print h] at c2
  have c3 := fun W => operands_yes neg ds k W h
  have hD := dval_lt h6
  have hD4 := hD
  obtain ⟨i, hi⟩ : ∃ i, dval ds / 10 ^ k = i := ⟨_, rfl⟩
  obtain ⟨f, hf⟩ : ∃ f, dval ds % 10 ^ k = f := ⟨_, rfl⟩
  have hi4 : i < 10 ^ ds.size := by rw [← hi]; exact Nat.lt_of_le_of_lt (Nat.div_le_self _ _) hD4
  have hf4 : f < 10 ^ ds.size := by rw [← hf]; exact Nat.lt_of_le_of_lt (Nat.mod_le _ _) hD4
  have eI : opI ds k = (false, digs i, 0, 0) := by unfold opI; rw [hi]; exact made_small hi4 h1 h2 (by omega)
  have eF : opF ds k = (false, digs f, 0, 0) := by unfold opF; rw [hf]; exact made_small hf4 h1 h2 (by omega)
  have c4 := fun W => shift_down false (digs f) 0 (-(k : Int)) W (small_is hf4 h1 h2 (by omega)).1 (by omega) (by omega) (by omega)
  rw [dval_digs, show (((0 : Nat) : Int)) - -(k : Int) = k by omega, made_small hf4 h1 h2 (by omega)] at c4
  have hr2 : rightB false ds k = true := right_yes h1 h2 h3 h4 (fun g => h5 ⟨g.1, by rcases g.2 with g | g; { exact .inl g }; cases g⟩) h6
  have c5 := fun W => add_tot false (digs i) ((0 : Nat) : Int) false (digs f) k W
  rw [addT_is (small_is hi4 h1 h2 (by omega)) (small_is hf4 h1 h2 hk)] at c5
  have hm : max 0 k = k := by omega
  have ez : ((i : Int) * 10 ^ (max 0 k - 0) + (f : Int) * 10 ^ (max 0 k - k)) = ((dval ds : Nat) : Int) := by
    rw [hm, Nat.sub_self, Nat.sub_zero, ← hi, ← hf]
    have := Nat.div_add_mod (dval ds) (10 ^ k)
    rw [Int.pow_zero, Int.mul_one]
    have e : ((dval ds / 10 ^ k : Nat) : Int) * 10 ^ k = ((10 ^ k * (dval ds / 10 ^ k) : Nat) : Int) := by push_cast; rw [Int.mul_comm]
    rw [e]
    omega
  rw [ez, hm] at c5
  have em : madeZ ((dval ds : Nat) : Int) (k : Int) = (false, ds, (k : Int), 0) := by
    have h := madeR_sv false (dval ds) k
    rw [sv_false] at h
    rw [← h]
    exact made_right hr2
  rw [em] at c5
  have c6 := fun W => compare_yes hr2 hr2 W
  have ec : cmpD false ds k false ds k = 0 := by unfold cmpD; exact cmpZ_self _
  rw [ec] at c6
  have hW : ¬ ((k : Int) < ((opW ds k : Nat) : Int)) := by unfold opW; omega
  have hop : opsA ds k = opsV ds k (false, digs i, 0, 0) (false, digs f, 0, 0) (opT ds k) (opW ds k) := by unfold opsA; rw [eI, eF]
  have e1 : IntKind.i64.wrap (-(k : Int)) = -(k : Int) := IntWalk.i64_in _ (by omega)
  rw [hop] at c3
  generalize opT ds k = rT at *
  generalize opW ds k = W0 at *
  generalize digs i = tI at *
  generalize digs f = tF at *
  generalize printT neg ds k = tx at *
  clear h h5 h6 hD hD4 hi hf hi4 hf4 eI eF hr2 hm ez em ec hop
  go_enter Tryd.func8, Tryd.ntmps8
  go_wp2_with fail
  refine (wakes_any _).mono ?_
  rintro e w1 ⟨rfl, hB1⟩
  have ka := (Blk.new w _ _).on hB1
  have hBw := ((Below.refl w.heap.size w).alloc (Nat.le_refl _) _).trans (hB1.mono (by simp))
  clear hB1
  have ca := ka.cell
  go_wp2_with fail
  refine (c1 _).mono ?_
  rintro e w2 ⟨rfl, hB2⟩
  have ka := ka.on hB2
  have hBw := hBw.trans (hB2.mono hBw.size)
  clear hB2 ca c1
  go_wp2_with fail
  refine (c2 _).mono ?_
  rintro e w3 ⟨rfl, hB3⟩
  have ka := ka.on hB3
  have hBw := hBw.trans (hB3.mono hBw.size)
  clear hB3 c2
  have ca := ka.cell
  have la := ka.lt
  have la' : w.heap.size < w3.heap.size + 1 := Nat.lt_succ_of_lt la
  go_wp2_with fail
  refine (c3 _).mono ?_
  rintro e w4 ⟨rfl, hB4⟩
  have k5 := ((Blk.new w3 _ _).alloc _).on hB4
  have k6 := (Blk.new' (w3.alloc _) _ _ (w3.heap.size + 1) (by simp)).on hB4
  have ka := ((ka.alloc _).alloc _).on hB4
  have hBw := ((hBw.alloc hBw.size _).alloc (by have := hBw.size; simp; omega) _).trans (hB4.mono (by have := hBw.size; simp; omega))
  clear hB4 ca la la' c3
  have ca := ka.cell
  have la := ka.lt
  have c5' := k5.cell
  have l5 := k5.lt
  have c6' := k6.cell
  have l6 := k6.lt
  go_wp2_with fail
  refine (c4 _).mono ?_
  rintro e w5 ⟨rfl, hB5⟩
  have k7 := (Blk.new w4 _ _).on hB5
  have ka := (ka.alloc _).on hB5
  have hBw := (hBw.alloc hBw.size _).trans (hB5.mono (by have := hBw.size; simp; omega))
  clear hB5 ca la c5' l5 c6' l6 c4 k5 k6
  have c7 := k7.cell
  have l7 := k7.lt
  go_wp2_with fail
  refine (c5 _).mono ?_
  rintro e w6 ⟨rfl, hB6⟩
  have k7 := (k7.alloc _).on hB6
  have hBw := (hBw.alloc hBw.size _).trans (hB6.mono (by have := hBw.size; simp; omega))
  clear hB6 c7 l7 c5
  have c7 := k7.cell
  have l7 := k7.lt
  go_wp2_with fail
  refine (c6 _).mono ?_
  rintro e w7 ⟨rfl, hB7⟩
  have hBw := (hBw.alloc hBw.size _).trans (hB7.mono (by have := hBw.size; simp; omega))
  clear hB7 c7 l7 c6
  go_wp2_with fail
  go_ret
  exact ⟨by first | rfl | (simp; done), hBw⟩

theorem decBack_walk (neg : Bool) (ds : ByteArray) (sc : Int) (w : World) :
    Calls Tryd.prog 8 #[.agg #[.bool neg, .string ds, .int .i64 sc]] w fun e w' => e = .returned (.bool true) ∧ Below w.heap.size w w' := by
  cases hr : rightB neg ds sc with
  | false => exact back_no hr w
  | true =>
    obtain ⟨h1, h2, h3, h4, _, _⟩ := of_decide_eq_true hr
    obtain ⟨k, rfl⟩ : ∃ k : Nat, sc = k := ⟨sc.toNat, by omega⟩
    exact back_yes hr w
end Go.Proofs.YtgccppilhbannaaDoor
