/-
  Does a rounded number go away from nought? dec.up's walk.
-/
import Derived.Test.YtgccppilhbannaaDoorDecRd
namespace Go.Proofs.YtgccppilhbannaaDoor
open Go.RowKit Go.PlainAid

/-- Which of two numbers is less, as Go tells it. -/
def cmpN (a b : Nat) : Int := if a < b then -1 else if b < a then 1 else 0
theorem cmpN_add (a b z : Nat) : cmpN (a + z) (b + z) = cmpN a b := by
  unfold cmpN
  by_cases h1 : a < b
  · rw [if_pos h1, if_pos (by omega)]
  · rw [if_neg h1, if_neg (by omega)]
    by_cases h2 : b < a
    · rw [if_pos h2, if_pos (by omega)]
    · rw [if_neg h2, if_neg (by omega)]
theorem cmpN_cases (r H : Nat) : (H < r ∧ cmpN r H = 1) ∨ (r = H ∧ cmpN r H = 0) ∨ (r < H ∧ cmpN r H = -1) := by
  unfold cmpN
  by_cases h1 : r < H
  · exact .inr (.inr ⟨h1, if_pos h1⟩)
  · rw [if_neg h1]
    by_cases h2 : H < r
    · exact .inl ⟨h2, if_pos h2⟩
    · exact .inr (.inl ⟨by omega, if_neg h2⟩)
def valH (l : List UInt8) : Nat := rowval ((l.map fun b => b.toNat - 48).reverse)
theorem valH_cons (b : UInt8) (l : List UInt8) : valH (b :: l) = valH l + 10 ^ l.length * (b.toNat - 48) := by
  unfold valH
  rw [List.map_cons, List.reverse_cons, rowval_append]
  simp [rowval]
theorem valH_lt {l : List UInt8} (h : ∀ b ∈ l, 48 ≤ b.toNat ∧ b.toNat ≤ 57) : valH l < 10 ^ l.length := by
  unfold valH
  have := rowval_lt (l := (l.map fun b => b.toNat - 48).reverse) (fun d hd => by
    obtain ⟨b, hb, rfl⟩ := List.mem_map.1 (List.mem_reverse.1 hd)
    have := h b hb
    omega)
  simpa using this
theorem compare_dig : ∀ (l m : List UInt8), l.length = m.length → (∀ b ∈ l, 48 ≤ b.toNat ∧ b.toNat ≤ 57) → (∀ b ∈ m, 48 ≤ b.toNat ∧ b.toNat ≤ 57) → Lib.compareBytes l m = cmpN (valH l) (valH m)
  | [], [], _, _, _ => rfl
  | [], _ :: _, h, _, _ => by simp at h
  | _ :: _, [], h, _, _ => by simp at h
  | a :: l, b :: m, h, hl, hm => by
    have hlen : l.length = m.length := by simpa using h
    have ih := compare_dig l m hlen (fun x hx => hl x (by simp [hx])) (fun x hx => hm x (by simp [hx]))
    have ha := hl a (by simp)
    have hb := hm b (by simp)
    have h1 := valH_lt (l := l) (fun x hx => hl x (by simp [hx]))
    have h2 := valH_lt (l := m) (fun x hx => hm x (by simp [hx]))
    rw [hlen] at h1
    unfold Lib.compareBytes
    rw [valH_cons, valH_cons, hlen]
    by_cases hab : a < b
    · have hab' : a.toNat < b.toNat := UInt8.lt_iff_toNat_lt.1 hab
      have : 10 ^ m.length * (a.toNat - 48 + 1) ≤ 10 ^ m.length * (b.toNat - 48) := Nat.mul_le_mul_left _ (by omega)
      rw [Nat.mul_add, Nat.mul_one] at this
      rw [if_pos hab]
      unfold cmpN
      rw [if_pos (by omega)]
    · rw [if_neg hab]
      have hab' : ¬ a.toNat < b.toNat := fun g => hab (UInt8.lt_iff_toNat_lt.2 g)
      by_cases hba : b < a
      · have hba' : b.toNat < a.toNat := UInt8.lt_iff_toNat_lt.1 hba
        have : 10 ^ m.length * (b.toNat - 48 + 1) ≤ 10 ^ m.length * (a.toNat - 48) := Nat.mul_le_mul_left _ (by omega)
        rw [Nat.mul_add, Nat.mul_one] at this
        rw [if_pos hba]
        unfold cmpN
        rw [if_neg (by omega), if_pos (by omega)]
      · have hba' : ¬ b.toNat < a.toNat := fun g => hba (UInt8.lt_iff_toNat_lt.2 g)
        rw [if_neg hba, ih]
        have e : a.toNat = b.toNat := by omega
        rw [e, cmpN_add]
theorem compare_texts {a b : ByteArray} (ha : AllDig a) (hb : AllDig b) (h : a.size = b.size) : Lib.compareBytes a.data.toList b.data.toList = cmpN (dval a) (dval b) :=
  compare_dig _ _ (by rw [size_list, size_list, h]) (allDig_mem.1 ha) (allDig_mem.1 hb)

/-- Does a number whose rest is r, of c digits, go away from nought? -/
def upB (neg odd : Bool) (r c : Nat) (mode : Int) : Bool :=
  if mode = 1 then decide (5 * 10 ^ (c - 1) < r) || (decide (r = 5 * 10 ^ (c - 1)) && odd)
  else if mode = 2 then decide (5 * 10 ^ (c - 1) ≤ r)
  else if mode = 4 then decide (r ≠ 0)
  else if mode = 5 then decide (r ≠ 0) && neg
  else if mode = 6 then decide (r ≠ 0) && !neg
  else false
theorem five_dig (k : Nat) : AllDig ((⟨#[53]⟩ : ByteArray) ++ zeros k) := allDig_app (fun j hj => by
  have : j = 0 := by have : (⟨#[53]⟩ : ByteArray).size = 1 := rfl; omega
  subst this
  decide) (zeros_dig k)
theorem dval_five (k : Nat) : dval ((⟨#[53]⟩ : ByteArray) ++ zeros k) = 5 * 10 ^ k := by
  rw [dval_behind]
  have : dval (⟨#[53]⟩ : ByteArray) = 5 := by decide +kernel
  rw [this]

set_option maxRecDepth 100000 in
set_option maxHeartbeats 2000000 in
theorem up_any (neg odd : Bool) (s : ByteArray) (mode : Int) (w : World) (hd : AllDig s) (h1 : 1 ≤ s.size) (h2 : s.size ≤ 1000000) :
    Calls Tryd.prog 55 #[.bool neg, .bool odd, .string s, .int .i64 mode] w fun e w' => e = .returned (.bool (upB neg odd (dval s) s.size mode)) ∧ Below w.heap.size w w' := by
  have hrp := fun W => repeat_int ((s.size : Int) - 1) W (by omega) (by omega)
  rw [show ((s.size : Int) - 1).toNat = s.size - 1 by omega] at hrp
  have hcmp := compare_texts hd (five_dig (s.size - 1)) (by rw [ByteArray.size_append, zeros_size]; have : (⟨#[53]⟩ : ByteArray).size = 1 := rfl; omega)
  rw [dval_five] at hcmp
  have hcp := fun W => Tryd.strings_Compare s (⟨#[53]⟩ ++ zeros (s.size - 1)) W
  simp only [hcmp] at hcp
  have hcp := fun W => (hcp W).mono fun _ _ h => And.intro h.1 h.2.symm
  clear hcmp
  have htr := fun W => Tryd.strings_Trim_one s 48 (by decide) W (by omega)
  have hemp := trimB_empty hd
  have hzs : (zeros (s.size - 1)).size = s.size - 1 := zeros_size _
  have hZ : (zeros (s.size - 1)).size ≤ 1000000 := by rw [zeros_size]; omega
  generalize (⟨(Lib.trimB s.data.toList 48).toArray⟩ : ByteArray) = T at *
  generalize zeros (s.size - 1) = Z at *
  obtain ⟨H, hH⟩ : ∃ H, 5 * 10 ^ (s.size - 1) = H := ⟨_, rfl⟩
  obtain ⟨r, hr⟩ : ∃ r, dval s = r := ⟨_, rfl⟩
  have hupd : ∀ m : Int, upB neg odd (dval s) s.size m = if m = 1 then decide (H < r) || (decide (r = H) && odd) else if m = 2 then decide (H ≤ r) else if m = 4 then decide (r ≠ 0) else if m = 5 then decide (r ≠ 0) && neg else if m = 6 then decide (r ≠ 0) && !neg else false := fun m => by unfold upB; rw [hH, hr]
  rw [hH, hr] at hcp
  rw [hr] at hemp
  have HU := Lib.hid hupd
  have HZ := Lib.hid hzs
  clear hupd hd hr hH hzs
  have hcc := cmpN_cases r H
  by_cases m1 : mode = 1
  · subst m1
    rcases hcc with ⟨g, hc⟩ | ⟨g, hc⟩ | ⟨g, hc⟩
    · rw [hc] at hcp
      have HW := Lib.hid (show upB neg odd (dval s) s.size 1 = true by rw [HU.out, if_pos rfl, decide_eq_true g]; rfl)
      clear hemp hc g
      go_enter Tryd.func55, Tryd.ntmps55
      go_wp2_with fail
      refine (hrp _).mono ?_
      rintro e w1 ⟨rfl, hB1⟩
      go_wp2_with fail
      refine (hcp _).mono ?_
      rintro e w' ⟨rfl, rfl⟩
      go_wp2_with fail
      refine (htr _).mono ?_
      rintro e w2 ⟨rfl, hB2⟩
      have hB2 := hB1.trans ((below_or hB2).mono hB1.size)
      go_wp2_with fail
      go_ret
      exact ⟨ret_bool (by rw [HW.out]; first | done | rfl | (simp; done)), hB2⟩
    · rw [hc] at hcp
      have HW := Lib.hid (show upB neg odd (dval s) s.size 1 = odd by rw [HU.out, if_pos rfl, decide_eq_true g, decide_eq_false (by omega)]; rfl)
      clear hemp hc g
      go_enter Tryd.func55, Tryd.ntmps55
      go_wp2_with fail
      refine (hrp _).mono ?_
      rintro e w1 ⟨rfl, hB1⟩
      go_wp2_with fail
      refine (hcp _).mono ?_
      rintro e w' ⟨rfl, rfl⟩
      go_wp2_with fail
      refine (htr _).mono ?_
      rintro e w2 ⟨rfl, hB2⟩
      have hB2 := hB1.trans ((below_or hB2).mono hB1.size)
      go_wp2_with fail
      go_ret
      exact ⟨ret_bool (by rw [HW.out]; first | done | rfl | (simp; done)), hB2⟩
    · rw [hc] at hcp
      have HW := Lib.hid (show upB neg odd (dval s) s.size 1 = false by rw [HU.out, if_pos rfl, decide_eq_false (by omega), decide_eq_false (by omega)]; rfl)
      clear hemp hc g
      go_enter Tryd.func55, Tryd.ntmps55
      go_wp2_with fail
      refine (hrp _).mono ?_
      rintro e w1 ⟨rfl, hB1⟩
      go_wp2_with fail
      refine (hcp _).mono ?_
      rintro e w' ⟨rfl, rfl⟩
      go_wp2_with fail
      refine (htr _).mono ?_
      rintro e w2 ⟨rfl, hB2⟩
      have hB2 := hB1.trans ((below_or hB2).mono hB1.size)
      go_wp2_with fail
      go_ret
      exact ⟨ret_bool (by rw [HW.out]; first | done | rfl | (simp; done)), hB2⟩
  by_cases m2 : mode = 2
  · subst m2
    rcases hcc with ⟨g, hc⟩ | ⟨g, hc⟩ | ⟨g, hc⟩
    · rw [hc] at hcp
      have HW := Lib.hid (show upB neg odd (dval s) s.size 2 = true by rw [HU.out, if_neg (by omega), if_pos rfl, decide_eq_true (by omega)])
      clear hemp hc g
      go_enter Tryd.func55, Tryd.ntmps55
      go_wp2_with fail
      refine (hrp _).mono ?_
      rintro e w1 ⟨rfl, hB1⟩
      go_wp2_with fail
      refine (hcp _).mono ?_
      rintro e w' ⟨rfl, rfl⟩
      go_wp2_with fail
      refine (htr _).mono ?_
      rintro e w2 ⟨rfl, hB2⟩
      have hB2 := hB1.trans ((below_or hB2).mono hB1.size)
      go_wp2_with fail
      go_ret
      exact ⟨ret_bool (by rw [HW.out]; first | done | rfl | (simp; done)), hB2⟩
    · rw [hc] at hcp
      have HW := Lib.hid (show upB neg odd (dval s) s.size 2 = true by rw [HU.out, if_neg (by omega), if_pos rfl, decide_eq_true (by omega)])
      clear hemp hc g
      go_enter Tryd.func55, Tryd.ntmps55
      go_wp2_with fail
      refine (hrp _).mono ?_
      rintro e w1 ⟨rfl, hB1⟩
      go_wp2_with fail
      refine (hcp _).mono ?_
      rintro e w' ⟨rfl, rfl⟩
      go_wp2_with fail
      refine (htr _).mono ?_
      rintro e w2 ⟨rfl, hB2⟩
      have hB2 := hB1.trans ((below_or hB2).mono hB1.size)
      go_wp2_with fail
      go_ret
      exact ⟨ret_bool (by rw [HW.out]; first | done | rfl | (simp; done)), hB2⟩
    · rw [hc] at hcp
      have HW := Lib.hid (show upB neg odd (dval s) s.size 2 = false by rw [HU.out, if_neg (by omega), if_pos rfl, decide_eq_false (by omega)])
      clear hemp hc g
      go_enter Tryd.func55, Tryd.ntmps55
      go_wp2_with fail
      refine (hrp _).mono ?_
      rintro e w1 ⟨rfl, hB1⟩
      go_wp2_with fail
      refine (hcp _).mono ?_
      rintro e w' ⟨rfl, rfl⟩
      go_wp2_with fail
      refine (htr _).mono ?_
      rintro e w2 ⟨rfl, hB2⟩
      have hB2 := hB1.trans ((below_or hB2).mono hB1.size)
      go_wp2_with fail
      go_ret
      exact ⟨ret_bool (by rw [HW.out]; first | done | rfl | (simp; done)), hB2⟩
  clear hcc
  generalize cmpN r H = c at *
  obtain ⟨b, hb⟩ : ∃ b, decide (r ≠ 0) = b := ⟨_, rfl⟩
  have hb' : T.toList.isEmpty = !b := by rw [hemp, ← hb]; by_cases e : r = 0 <;> simp [e]
  clear hemp
  by_cases m4 : mode = 4
  · subst m4
    have HW := Lib.hid (show upB neg odd (dval s) s.size 4 = b by rw [HU.out, if_neg (by omega), if_neg (by omega), if_pos rfl, hb])
    clear hb
    cases b
    all_goals
      go_enter Tryd.func55, Tryd.ntmps55
      go_wp2_with fail
      refine (hrp _).mono ?_
      rintro e w1 ⟨rfl, hB1⟩
      go_wp2_with fail
      refine (hcp _).mono ?_
      rintro e w' ⟨rfl, rfl⟩
      go_wp2_with fail
      refine (htr _).mono ?_
      rintro e w2 ⟨rfl, hB2⟩
      have hB2 := hB1.trans ((below_or hB2).mono hB1.size)
      go_wp2_with fail
      go_ret
      exact ⟨ret_bool (by rw [HW.out]; first | done | rfl | (simp; done)), hB2⟩
  by_cases m5 : mode = 5
  · subst m5
    have HW := Lib.hid (show upB neg odd (dval s) s.size 5 = (b && neg) by rw [HU.out, if_neg (by omega), if_neg (by omega), if_neg (by omega), if_pos rfl, hb])
    clear hb
    cases b
    all_goals
      go_enter Tryd.func55, Tryd.ntmps55
      go_wp2_with fail
      refine (hrp _).mono ?_
      rintro e w1 ⟨rfl, hB1⟩
      go_wp2_with fail
      refine (hcp _).mono ?_
      rintro e w' ⟨rfl, rfl⟩
      go_wp2_with fail
      refine (htr _).mono ?_
      rintro e w2 ⟨rfl, hB2⟩
      have hB2 := hB1.trans ((below_or hB2).mono hB1.size)
      go_wp2_with fail
      go_ret
      exact ⟨ret_bool (by rw [HW.out]; first | done | rfl | (simp; done)), hB2⟩
  by_cases m6 : mode = 6
  · subst m6
    have HW := Lib.hid (show upB neg odd (dval s) s.size 6 = (b && !neg) by rw [HU.out, if_neg (by omega), if_neg (by omega), if_neg (by omega), if_neg (by omega), if_pos rfl, hb])
    clear hb
    cases b
    all_goals
      go_enter Tryd.func55, Tryd.ntmps55
      go_wp2_with fail
      refine (hrp _).mono ?_
      rintro e w1 ⟨rfl, hB1⟩
      go_wp2_with fail
      refine (hcp _).mono ?_
      rintro e w' ⟨rfl, rfl⟩
      go_wp2_with fail
      refine (htr _).mono ?_
      rintro e w2 ⟨rfl, hB2⟩
      have hB2 := hB1.trans ((below_or hB2).mono hB1.size)
      go_wp2_with fail
      go_ret
      exact ⟨ret_bool (by rw [HW.out]; first | done | rfl | (simp; done)), hB2⟩
  have HW := Lib.hid (show upB neg odd (dval s) s.size mode = false by rw [HU.out, if_neg m1, if_neg m2, if_neg m4, if_neg m5, if_neg m6])
  have n1 : (mode == 1) = false := by simpa using m1
  have n2 : (mode == 2) = false := by simpa using m2
  have n4 : (mode == 4) = false := by simpa using m4
  have n5 : (mode == 5) = false := by simpa using m5
  have n6 : (mode == 6) = false := by simpa using m6
  clear hb m1 m2 m4 m5 m6
  go_enter Tryd.func55, Tryd.ntmps55
  go_wp2_with fail
  refine (hrp _).mono ?_
  rintro e w1 ⟨rfl, hB1⟩
  go_wp2_with fail
  refine (hcp _).mono ?_
  rintro e w' ⟨rfl, rfl⟩
  go_wp2_with fail
  refine (htr _).mono ?_
  rintro e w2 ⟨rfl, hB2⟩
  have hB2 := hB1.trans ((below_or hB2).mono hB1.size)
  go_wp2_with fail
  go_ret
  exact ⟨ret_bool (by rw [HW.out]; first | done | rfl | (simp; done)), hB2⟩
end Go.Proofs.YtgccppilhbannaaDoor
