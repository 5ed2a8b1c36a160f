/-
  The walk of dec.Print at every decimal.
-/
import Derived.Test.YtgccppilhbannaaDoorDecT
import Derived.IntWalk
import Derived.Deep.Cut
import Derived.Deep.DeepCutAuto
namespace Go.Proofs.YtgccppilhbannaaDoor
open Go.RowKit Go.PlainAid

theorem repeat_int (n : Int) (w : World) (h0 : 0 ≤ n) (hk : n ≤ 1000000000000) : Calls Tryd.prog 51 #[.string ⟨#[48]⟩, .int .i64 n] w fun e w' => e = .returned (.string (zeros n.toNat)) ∧ Below w.heap.size w w' := by
  obtain ⟨k, rfl⟩ : ∃ k : Nat, n = k := ⟨n.toNat, by omega⟩
  exact repeat_any k w (by omega)
theorem check_yes {neg : Bool} {ds : ByteArray} {sc : Int} (hr : rightB neg ds sc = true) (w : World) :
    Calls Tryd.prog 17 #[.agg #[.bool neg, .string ds, .int .i64 sc]] w fun e w' => e = .returned (.int .i64 0) ∧ Below w.heap.size w w' := by
  have h := check_any neg ds sc w
  rw [hr] at h
  exact h
theorem check_no {neg : Bool} {ds : ByteArray} {sc : Int} (hr : rightB neg ds sc = false) (w : World) :
    Calls Tryd.prog 17 #[.agg #[.bool neg, .string ds, .int .i64 sc]] w fun e w' => e = .returned (.int .i64 2) ∧ Below w.heap.size w w' := by
  have h := check_any neg ds sc w
  rw [hr] at h
  exact h
theorem pad_list (ds : ByteArray) (k : Nat) : (⟨(padL ds.data.toList k).toArray⟩ : ByteArray) = zeros (k + 1 - ds.size) ++ ds := by
  apply ext_list
  rw [app_list, zeros_list]
  simp [padL]
theorem pad_not (ds : ByteArray) (k : Nat) (h : k < ds.size) : (⟨(padL ds.data.toList k).toArray⟩ : ByteArray) = ds := by
  rw [pad_list, show k + 1 - ds.size = 0 by omega]
  apply ext_list
  rw [app_list]
  rfl
theorem pad_size (ds : ByteArray) (k : Nat) : (⟨(padL ds.data.toList k).toArray⟩ : ByteArray).size = max (k + 1) ds.size := by
  rw [pad_list, ByteArray.size_append, zeros_size]
  omega


theorem printT_true (ds : ByteArray) (k : Nat) : printT true ds k = ⟨#[45]⟩ ++ ⟨(pointL ds.data.toList k).toArray⟩ := by
  apply ext_list
  rw [app_list, printT_list]
  rfl
theorem printT_false (ds : ByteArray) (k : Nat) : printT false ds k = ⟨(pointL ds.data.toList k).toArray⟩ := by
  apply ext_list
  rw [printT_list]
  rfl
theorem ret_str2 {a b : ByteArray} {n : Int} (h : b = a) : Ending.returned (.tuple #[.string a, .int .i64 n]) = .returned (.tuple #[.string b, .int .i64 n]) := by rw [h]
theorem cut_text (S : ByteArray) (j : Nat) : (S.extract 0 j ++ ⟨#[46]⟩) ++ S.extract j S.size = ⟨(S.data.toList.take j ++ 46 :: S.data.toList.drop j).toArray⟩ := by
  apply ext_list
  rw [app_list, app_list, sub_list, sub_list, List.take_of_length_le (show S.data.toList.length ≤ S.size by rw [size_list]; omega)]
  simp

set_option maxRecDepth 100000 in
set_option maxHeartbeats 1000000 in
theorem print_yes (neg : Bool) (ds : ByteArray) (k : Nat) (w : World) (hr : rightB neg ds k = true) :
    Calls Tryd.prog 15 #[.agg #[.bool neg, .string ds, .int .i64 k]] w fun e w' => e = .returned (.tuple #[.string (printT neg ds k), .int .i64 0]) ∧ Below w.heap.size w w' := by
  have hchk := fun W => check_yes hr W
  obtain ⟨h1, h2, h3, h4, _, _⟩ := of_decide_eq_true hr
  have hB0 := (Below.refl w.heap.size w).alloc (Nat.le_refl _) (.cells #[.bool neg, .string ds, .int .i64 k] 23)
  clear hr
  by_cases hk : 0 < k
  · have hP : pointL ds.data.toList k = _ := if_pos hk
    have HP := Lib.hid hP; clear hP
    go_enter Tryd.func15, Tryd.ntmps15
    go_wp2_with fail
    refine (hchk _).mono ?_
    rintro e w1 ⟨rfl, hB1⟩
    obtain ⟨hc, hf⟩ := bcell hB1
    have hz1 : w.heap.size < w1.heap.size := by have := hB1.size; simp at this; omega
    have hzs := zeros_size
    clear hchk
    go_upto_if 24 with fail
    go_cut [5] (fun s5 wx => s5 = .string ⟨(padL ds.data.toList k).toArray⟩ ∧ Below w1.heap.size w1 wx)
    case first =>
      by_cases hn : ds.size < k + 1
      · have HL := Lib.hid (pad_list ds k)
        go_wp2_with fail
        refine (repeat_int _ _ (by omega) (by omega)).mono ?_
        rintro e w2 ⟨rfl, hB2⟩
        go_wp2_with fail
        go_meet
        case rel => exact ⟨by rw [HL.out], hB2⟩
      · have HL := Lib.hid (pad_not ds k (by omega))
        go_wp2_with fail
        go_meet
        case rel => exact ⟨by rw [HL.out], Below.refl _ _⟩
    case rest =>
      obtain ⟨rfl, hB2⟩ := hcut
      have hsz := pad_size ds k
      obtain ⟨hc2, hf2⟩ := bcell hB2
      have hz2 := hB2.size
      have hl : (padL ds.data.toList k).length = (⟨(padL ds.data.toList k).toArray⟩ : ByteArray).size := rfl
      rw [hl] at HP
      have hsl : padL ds.data.toList k = (⟨(padL ds.data.toList k).toArray⟩ : ByteArray).data.toList := rfl
      have HS := Lib.hid hsl; clear hsl
      generalize (⟨(padL ds.data.toList k).toArray⟩ : ByteArray) = S at *
      have h5 : k + 1 ≤ S.size := by omega
      have h6 : S.size ≤ 401 := by omega
      have HC := Lib.hid (show (⟨(pointL ds.data.toList k).toArray⟩ : ByteArray) = (S.extract 0 (S.size - k) ++ ⟨#[46]⟩) ++ S.extract (S.size - k) S.size by rw [HP.out, cut_text, HS.out])
      clear hsz hl
      have e1 : IntKind.i64.wrap ((S.size : Int) - k) = S.size - k := IntWalk.i64_in _ (by omega)
      have e2 : 0 ≤ (S.size : Int) - k := by omega
      have e3 : ((S.size : Int) - k).toNat = S.size - k := by omega
      go_wp2_with fail
      go_quiet (fail)
      clear e1 e2 e3
      have hBN : Below w.heap.size w (wc.drewN nq) := below_drewN (hB0.trans ((hB1.trans (hB2.mono (by simpa using hB1.size))).mono (by simp))) nq
      cases neg
      · go_wp2
        go_ret2
        exact ⟨ret_str2 (by rw [printT_false, HC.out]), hBN⟩
      · go_wp2
        go_ret2
        exact ⟨ret_str2 (by rw [printT_true, HC.out]), hBN⟩
  · obtain rfl : k = 0 := by omega
    have HP := Lib.hid (show (⟨(pointL ds.data.toList 0).toArray⟩ : ByteArray) = ds from ext_list rfl)
    cases neg
    · go_enter Tryd.func15, Tryd.ntmps15
      go_wp2_with fail
      refine (hchk _).mono ?_
      rintro e w1 ⟨rfl, hB1⟩
      obtain ⟨hc, hf⟩ := bcell hB1
      have hBN := hB0.trans (hB1.mono (by simp))
      go_wp2
      go_ret2
      exact ⟨ret_str2 (by rw [printT_false, HP.out]), hBN⟩
    · go_enter Tryd.func15, Tryd.ntmps15
      go_wp2_with fail
      refine (hchk _).mono ?_
      rintro e w1 ⟨rfl, hB1⟩
      obtain ⟨hc, hf⟩ := bcell hB1
      have hBN := hB0.trans (hB1.mono (by simp))
      go_wp2
      go_ret2
      exact ⟨ret_str2 (by rw [printT_true, HP.out]), hBN⟩

set_option maxRecDepth 100000 in
set_option maxHeartbeats 1000000 in
/-- dec.Print at every decimal. -/
theorem print_any (neg : Bool) (ds : ByteArray) (sc : Int) (w : World) :
    Calls Tryd.prog 15 #[.agg #[.bool neg, .string ds, .int .i64 sc]] w fun e w' => e = .returned (printV (printR neg ds sc)) ∧ Below w.heap.size w w' := by
  cases hr : rightB neg ds sc with
  | true =>
    obtain ⟨h1, h2, h3, h4, _, _⟩ := of_decide_eq_true hr
    obtain ⟨k, rfl⟩ : ∃ k : Nat, sc = k := ⟨sc.toNat, by omega⟩
    refine (print_yes neg ds k w hr).mono ?_
    rintro e w' ⟨rfl, h⟩
    exact ⟨ret_val (by unfold printR; rw [hr]; rfl), h⟩
  | false =>
    have hchk := fun W => check_no hr W
    have hR : printR neg ds sc = (⟨#[]⟩, 2) := by unfold printR; rw [hr]; rfl
    have HR := Lib.hid (show Ending.returned (.tuple #[.string ⟨#[]⟩, .int .i64 2]) = .returned (printV (printR neg ds sc)) by rw [hR])
    clear hr hR
    have hB0 := (Below.refl w.heap.size w).alloc (Nat.le_refl _) (.cells #[.bool neg, .string ds, .int .i64 sc] 23)
    go_enter Tryd.func15, Tryd.ntmps15
    go_wp2_with fail
    refine (hchk _).mono ?_
    rintro e w1 ⟨rfl, hB1⟩
    have hBN := hB0.trans (hB1.mono (by simp))
    go_wp2
    go_ret2
    exact ⟨HR.out, hBN⟩
end Go.Proofs.YtgccppilhbannaaDoor
