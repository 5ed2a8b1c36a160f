/-
  What is left of a decimal when a nought is taken off its end. No program in sight.
-/
import Derived.Test.YtgccppilhbannaaDoorDecRd2
import Derived.Test.YtgccppilhbannaaDoorRound
namespace Go.Proofs.YtgccppilhbannaaDoor
open Go.RowKit Go.PlainAid

theorem rowval_drop1 (l : List Nat) (h : ∀ d ∈ l, d < 10) : rowval (l.drop 1) = rowval l / 10 := by
  cases l with
  | nil => rfl
  | cons d l =>
    have := h d (by simp)
    simp only [List.drop_succ_cons, List.drop_zero, rowval]
    omega
theorem cutZ_made {neg : Bool} {s : ByteArray} {j : Nat} (hr : rightB neg s j = true) (h48 : bt s (s.size - 1) = 48) (hj : 1 ≤ j) :
    madeR neg (rowval (((dl s).reverse).drop 1)) ((j : Int) - 1) = (neg, cutZ s, (j : Int) - 1, 0) ∧ rightB neg (cutZ s) ((j - 1 : Nat) : Int) = true := by
  obtain ⟨h1, h2, h3, h4, h5, hd⟩ := of_decide_eq_true hr
  have hv : rowval (((dl s).reverse).drop 1) = dval s / 10 := rowval_drop1 _ (fun d hdd => dl_lt hd d (by simpa using hdd))
  rw [hv]
  by_cases hz : 1 < s.size
  · have hc : cutZ s = s.extract 0 (s.size - 1) := if_pos hz
    have hsz : (s.extract 0 (s.size - 1)).size = s.size - 1 := by rw [size_sub _ _ _ (by omega)]; omega
    have hdig : AllDig (s.extract 0 (s.size - 1)) := sub_dig hd _ _ (by omega)
    have hb0 : bt (s.extract 0 (s.size - 1)) 0 = bt s 0 := by rw [bt_sub _ _ _ _ (by omega) (by omega)]
    have hn48 : bt s 0 ≠ 48 := fun e => h5 ⟨e, .inl hz⟩
    have hdv : dval (s.extract 0 (s.size - 1)) = dval s / 10 := by
      have e : dval s = dval (s.extract 0 (s.size - 1) ++ s.extract (s.size - 1) s.size) := by rw [split_at]
      have h6 : (s.extract (s.size - 1) s.size).size = 1 := by rw [size_sub _ _ _ (Nat.le_refl _)]; omega
      have h7 := dval_lt (sub_dig hd (s.size - 1) s.size (Nat.le_refl _))
      rw [dval_app, h6] at e
      rw [h6] at h7
      omega
    have hdg : digs (dval s / 10) = s.extract 0 (s.size - 1) := by
      rw [← hdv]
      exact digs_of hdig (by omega) (fun _ => by rw [hb0]; exact hn48)
    have hne : dval s / 10 ≠ 0 := fun e => by
      rw [e, digs_zero] at hdg
      rw [← hdg] at hb0
      exact hn48 (by rw [← hb0]; decide +kernel)
    rw [hc]
    refine ⟨?_, right_yes (by omega) (by omega) (by omega) (by omega) (fun g => hn48 (by rw [← hb0]; exact g.1)) hdig⟩
    unfold madeR
    rw [hdg, if_neg (by omega)]
    simp [hne]
  · have hc : cutZ s = s := if_neg hz
    have hs1 : s.size = 1 := by omega
    rw [hs1] at h48
    have h48' : bt s 0 = 48 := h48
    have hneg : neg = false := by
      cases neg with
      | false => rfl
      | true => exact absurd ⟨h48', .inr rfl⟩ h5
    subst hneg
    have hs : s = ⟨#[48]⟩ := bytes_eq (by rw [hs1]; rfl) (fun k hk => by
      obtain rfl : k = 0 := by omega
      rw [h48']
      decide +kernel)
    subst hs
    rw [hc]
    have hdv : dval (⟨#[48]⟩ : ByteArray) / 10 = 0 := by decide +kernel
    rw [hdv]
    refine ⟨?_, right_yes (by decide) (by decide) (by omega) (by omega) (fun g => by rcases g.2 with g | g; { exact absurd g (by decide) }; cases g) hd⟩
    unfold madeR
    rw [digs_zero, if_neg (by simp; omega)]
    rfl
end Go.Proofs.YtgccppilhbannaaDoor
