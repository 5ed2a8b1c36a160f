/-
  What was read is not printed more than four times as long. The plain law, no program in sight.
-/
import Derived.Test.YtbnhfjhhbgmhfaaDoorDpJc
namespace Go.Proofs.YtbnhfjhhbgmhfaaDoor
open Go.PlainAid

theorem dblL_len : ∀ t : List UInt8, (dblL t).length ≤ 2 * t.length
  | [] => Nat.le_refl _
  | c :: t => by
    have ih := dblL_len t
    by_cases h : c = 39
    · subst h
      rw [dblL_quote]
      simp only [List.length_cons]
      omega
    · rw [dblL_other h]
      simp only [List.length_cons]
      omega
theorem dress_le (t : ByteArray) : (dress t).size ≤ 2 * t.size + 2 := by
  have hsz : t.size = t.data.toList.length := by rw [Array.length_toList]; rfl
  rcases dress_split t with ⟨_, hd⟩ | ⟨a, x, m, r, hc, _, _, _, hd, _⟩
  · rw [hd, baL_size]
    have := dblL_len t.data.toList
    omega
  · have h1 := dblL_len a
    have h2 := dblL_len (x :: m)
    have h3 := dblL_len r
    rw [hd, baL_size, hsz, hc]
    simp only [List.length_append, List.length_cons] at h1 h2 h3 ⊢
    omega
/-- How much a field may be, printed. -/
def wgt (x : PF) : Nat := if x.1 = 0 then 2 * x.2.2.size + 2 else x.2.1.toNat
def wgtL (l : List PF) : Nat := (l.map wgt).sum
theorem wgtL_append (a b : List PF) : wgtL (a ++ b) = wgtL a + wgtL b := by unfold wgtL; rw [List.map_append, List.sum_append]
theorem wgtL_one (x : PF) : wgtL [x] = wgt x := by simp [wgtL]
theorem printT_le : ∀ (l : List PF) (p : Int), mayF p l = true → (printT l).size ≤ wgtL l
  | [], _, _ => Nat.zero_le _
  | x :: l, p, h => by
    have h' : (fldB x && p != x.1 && mayF x.1 l) = true := h
    simp only [Bool.and_eq_true, bne_iff_ne] at h'
    obtain ⟨⟨h1, h2⟩, h3⟩ := h'
    have ih := printT_le l x.1 h3
    have hc := fldB_count h1
    obtain ⟨xb, xc, xt⟩ := x
    simp only at hc
    rw [printT_cons, ByteArray.size_append, show wgtL ((xb, xc, xt) :: l) = wgt (xb, xc, xt) + wgtL l by simp [wgtL]]
    have : (pieceB (xb, xc, xt)).size ≤ wgt (xb, xc, xt) := by
      unfold wgt
      by_cases h0 : xb = 0
      · subst h0
        rw [hc.2.2.1 rfl, piece_text rfl, if_pos rfl]
        exact dress_le xt
      · obtain ⟨ht, hr, hc3⟩ := hc.2.2.2 h0
        obtain ⟨n, rfl⟩ : ∃ n : Nat, xc = (n : Int) := ⟨xc.toNat, by omega⟩
        rw [piece_letter ht, repB_size, if_neg h0]
        simp
    omega
theorem wgtL_put (l : List PF) (t : ByteArray) : wgtL (putR l t) ≤ wgtL l + (2 * t.size + 2) := by
  rcases List.eq_nil_or_concat l with rfl | ⟨l', ⟨b, c, u⟩, rfl⟩
  · rw [putR_nil, wgtL_one]
    unfold wgt
    simp only [if_true]
    omega
  · rw [List.concat_eq_append]
    by_cases h : b = 0
    · subst h
      rw [putR_text, wgtL_append, wgtL_append, wgtL_one, wgtL_one]
      unfold wgt
      simp only [if_true]
      rw [ByteArray.size_append]
      omega
    · rw [putR_letter h, wgtL_append (l' ++ [(b, c, u)]), wgtL_one]
      unfold wgt
      simp only [if_true]
      omega
theorem pR_wgt (s : ByteArray) : ∀ (f i : Nat) (l : List PF), s.size - i = f → i ≤ s.size → wgtL l ≤ 4 * i → wgtL (pR s i l).1 ≤ 4 * s.size
  | f, i, l, hf, hi, h => by
    by_cases hlt : i < s.size
    · rw [pR_step hlt]
      have hrm := runTo_more hlt
      have hre := (runTo_ge (s := s) (b := bt s i) _ i rfl).2 hi
      by_cases hL : bLetter (bt s i) = true
      · rw [if_pos hL]
        split
        · exact Nat.zero_le _
        · refine pR_wgt s _ _ _ rfl hre ?_
          rw [wgtL_append, wgtL_one]
          have h0 : bt s i ≠ 0 := fun e => by rw [e] at hL; revert hL; decide
          unfold wgt
          simp only
          rw [if_neg h0]
          omega
      · rw [if_neg hL]
        by_cases h39 : bt s i ≠ 39
        · rw [if_pos h39]
          refine pR_wgt s _ _ _ rfl (by omega) ?_
          have := wgtL_put l (s.extract i (i + 1))
          have hz : (s.extract i (i + 1)).size = 1 := by simp; omega
          omega
        · rw [if_neg h39]
          by_cases h2 : i + 1 < s.size ∧ bt s (i + 1) = 39
          · rw [if_pos h2]
            refine pR_wgt s _ _ _ rfl (by omega) ?_
            have := wgtL_put l ⟨#[39]⟩
            have hz : (⟨#[39]⟩ : ByteArray).size = 1 := rfl
            omega
          · rw [if_neg h2]
            cases hq : qR s (i + 1) ⟨#[]⟩ with
            | none => exact Nat.zero_le _
            | some x =>
              obtain ⟨t, j⟩ := x
              obtain ⟨j1, j2, j3, j4⟩ := qR_some _ _ _ _ _ rfl hq
              rw [show (⟨#[]⟩ : ByteArray).size = 0 from rfl] at j4
              refine pR_wgt s _ _ _ rfl j2 ?_
              have := wgtL_put l t
              omega
    · rw [pR_end hlt]
      show wgtL l ≤ _
      omega
  termination_by f => f
  decreasing_by all_goals omega
/-- What was read and is too long to be printed was longer than 1000 bytes. -/
theorem parse_long {s : ByteArray} (hm : mayB (dpParse s).1 = true) (h : 4096 < (printT (dpParse s).1).size) : 1000 < s.size := by
  have h1 := printT_le _ _ hm
  have h2 : wgtL (dpParse s).1 ≤ 4 * s.size := by
    unfold dpParse
    split
    · exact Nat.zero_le _
    · split
      · exact Nat.zero_le _
      · exact pR_wgt s _ 0 [] rfl (Nat.zero_le _) (Nat.zero_le _)
  omega
end Go.Proofs.YtbnhfjhhbgmhfaaDoor
