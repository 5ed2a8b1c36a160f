/-
  Patterns of dates: the plain law of DatepatOwn: a pattern's own skeleton is read back as it is, and stretches nothing; which ranks stand twice. No program in sight.
-/
import Derived.Test.YtbnhfjhhbgmhfaaDoorStrP
import Derived.Test.YtbnhfjhhbgmhfaaDoorPrintsW
namespace Go.Proofs.YtbnhfjhhbgmhfaaDoor
open Go.PlainAid

theorem skInc_snoc : ∀ (l : List PF) (p : Nat) (x : PF), SkInc p l → (∀ y ∈ l, rankB y.1 < rankB x.1) → x.2.2 = ⟨#[]⟩ ∧ 0 ≤ x.1 ∧ x.1 ≤ 255 ∧ plainB x.1 = x.1 ∧ p < rankB x.1 ∧ rankB x.1 ≠ 8 ∧ 1 ≤ x.2.1 ∧ x.2.1 ≤ mostN (rankB x.1) → SkInc p (l ++ [x])
  | [], _, _, _, _, hx => ⟨hx, trivial⟩
  | y :: l, p, x, h, hr, hx => by
    have hyx := hr y (by simp)
    exact ⟨h.1, skInc_snoc l (rankB y.1) x h.2 (fun z hz => hr z (by simp [hz])) ⟨hx.1, hx.2.1, hx.2.2.1, hx.2.2.2.1, hyx, hx.2.2.2.2.2⟩⟩
theorem plain_plain (b : Int) : plainB (plainB b) = plainB b := by
  have h : ∀ c : Int, plainB c = if c = 76 then 77 else if c = 99 then 69 else if c = 75 then 104 else if c = 107 then 72 else if c = 120 then 90 else c := fun _ => rfl
  rw [h b]
  split
  · rfl
  split
  · rfl
  split
  · rfl
  split
  · rfl
  split
  · rfl
  rw [h b]
  simp_all
def sumM : Nat → Nat
  | 0 => 0
  | r + 1 => sumM r + mostN (r + 1)
theorem ofN_inc {l : List PF} (h : PFin l) : ∀ r, SkInc 0 (ofN l r) ∧ (∀ y ∈ ofN l r, rankB y.1 ≤ r) ∧ (printT (ofN l r)).size ≤ sumM r
  | 0 => ⟨trivial, fun y hy => absurd hy (by simp [ofN]), Nat.le_refl _⟩
  | r + 1 => by
    obtain ⟨i1, i2, i3⟩ := ofN_inc h r
    show SkInc 0 (ofN l r ++ ofOne l (r + 1)) ∧ (∀ y ∈ ofN l r ++ ofOne l (r + 1), rankB y.1 ≤ r + 1) ∧ (printT (ofN l r ++ ofOne l (r + 1))).size ≤ sumM r + mostN (r + 1)
    unfold ofOne
    by_cases h8 : r + 1 = 8
    · rw [if_pos h8, List.append_nil]
      exact ⟨i1, fun y hy => by have := i2 y hy; omega, by omega⟩
    · rw [if_neg h8]
      cases hf : findR l (r + 1) with
      | none =>
        simp only [List.append_nil]
        exact ⟨i1, fun y hy => by have := i2 y hy; omega, by omega⟩
      | some y =>
        simp only
        obtain ⟨hm, hr⟩ := findR_some hf
        obtain ⟨h1, h2, h3, _⟩ := h.2 y hm
        have h0 : y.1 ≠ 0 := fun e => by rw [e] at hr; have : rankB 0 = 0 := rfl; omega
        unfold fldB at h1
        rw [if_neg h0] at h1
        have h1 := of_decide_eq_true h1
        have hp := plain_range y.1 h2 h3
        have hrk : rankB (plainB y.1) = r + 1 := by rw [rank_plain, hr]
        obtain ⟨yb, yc, yt⟩ := y
        simp only at hr h1 hp hrk
        obtain ⟨n, rfl⟩ : ∃ n : Nat, yc = n := ⟨yc.toNat, by omega⟩
        rw [hr] at h1
        refine ⟨skInc_snoc _ _ _ i1 (fun z hz => by have := i2 z hz; simp only; omega) ⟨rfl, hp.1, hp.2, plain_plain _, by simp only; omega, by simp only; omega, by simp only; omega, by simp only; rw [hrk]; omega⟩, ?_, ?_⟩
        · intro z hz
          rcases List.mem_append.1 hz with hz | hz
          · have := i2 z hz; omega
          · simp at hz
            subst hz
            simp only
            omega
        · rw [printT_snoc, piece_letter rfl, ByteArray.size_append, repB_size]
          omega
theorem own_skel {l : List PF} (h : PFin l) : skel (printT (ofL l)) = (ofL l, 0, 0) ∧ (printT (ofL l)).size ≤ 64 := by
  obtain ⟨i1, _, i3⟩ := ofN_inc h 13
  have hs : sumM 13 ≤ 64 := by decide
  exact ⟨skel_back i1 (by show (printT (ofN l 13)).size ≤ 64; omega), by show (printT (ofN l 13)).size ≤ 64; omega⟩
theorem ofN_find {l : List PF} {r : Nat} {z : PF} : ∀ n, findR (ofN l n) r = some z → ∃ y, y ∈ l ∧ rankB y.1 = r ∧ z.2.1 = y.2.1
  | 0, h => by cases h
  | n + 1, h => by
    have h : findR (ofN l n ++ ofOne l (n + 1)) r = some z := h
    unfold ofOne at h
    by_cases h8 : n + 1 = 8
    · rw [if_pos h8, List.append_nil] at h
      exact ofN_find n h
    · rw [if_neg h8] at h
      cases hf : findR l (n + 1) with
      | none =>
        rw [hf] at h
        simp only [List.append_nil] at h
        exact ofN_find n h
      | some y =>
        rw [hf] at h
        simp only at h
        rw [findR_snoc] at h
        cases hg : findR (ofN l n) r with
        | some z' =>
          rw [hg] at h
          cases h
          exact ofN_find n hg
        | none =>
          rw [hg] at h
          simp only at h
          split at h
          · rename_i hr
            cases h
            obtain ⟨hm, hk⟩ := findR_some hf
            rw [rank_plain] at hr
            exact ⟨y, hm, by omega, rfl⟩
          · cases h
/-- Does a field of a rank stand in a list? -/
def hasR (l : List PF) (r : Nat) : Bool := l.any fun x => rankB x.1 == r
theorem hasR_next {l : List PF} {i : Nat} (h : i < l.length) (r : Nat) : hasR (l.take (i + 1)) r = (hasR (l.take i) r || (rankB l[i].1 == r)) := by
  unfold hasR
  rw [take_snoc' l i h, List.any_append]
  simp
theorem hasR_mem {l : List PF} {r i j : Nat} (hi : j < i) (hl : j < l.length) (h : rankB l[j].1 = r) : hasR (l.take i) r = true := by
  unfold hasR
  rw [List.any_eq_true]
  exact ⟨l[j], List.mem_take_iff_getElem.2 ⟨j, by omega, rfl⟩, by simp [h]⟩
/-- Has a rank stood twice among the first fields? -/
def twN (l : List PF) : Nat → Bool
  | 0 => false
  | i + 1 => twN l i || (if h : i < l.length then (if rankB l[i].1 = 0 then false else hasR (l.take i) (rankB l[i].1)) else false)
theorem tw_none {l : List PF} {i : Nat} (h : i < l.length) (hr : rankB l[i].1 = 0) : twN l (i + 1) = twN l i := by
  show (twN l i || _) = _
  rw [dif_pos h, if_pos hr, Bool.or_false]
theorem tw_some {l : List PF} {i : Nat} (h : i < l.length) (hr : rankB l[i].1 ≠ 0) : twN l (i + 1) = (twN l i || hasR (l.take i) (rankB l[i].1)) := by
  show (twN l i || _) = _
  rw [dif_pos h, if_neg hr]
theorem tw_apart {l : List PF} : ∀ i, twN l i = false → ∀ j k (hj : j < l.length) (hk : k < l.length), j < k → k < i → rankB l[j].1 = rankB l[k].1 → rankB l[k].1 = 0
  | 0, _, _, _, _, _, _, h, _ => absurd h (by omega)
  | i + 1, h, j, k, hj, hk, hjk, hki, he => by
    have h' : twN l i = false := by
      cases hq : twN l i with
      | false => rfl
      | true =>
        have h : (twN l i || _) = false := h
        rw [hq] at h
        cases h
    by_cases hk2 : k < i
    · exact tw_apart i h' j k hj hk hjk hk2 he
    · obtain rfl : k = i := by omega
      by_cases h0 : rankB l[k].1 = 0
      · exact h0
      · rw [tw_some hk h0, hasR_mem hjk hj he] at h
        rw [Bool.or_true] at h
        cases h
/-- What has no rank twice stays as it is under its own skeleton. -/
theorem own_stay {l : List PF} (h : twN l l.length = false) (hm : ∀ x ∈ l, fldB x = true) : stretchR l (ofL l) = l := by
  unfold stretchR
  conv => rhs; rw [← List.map_id l]
  refine List.map_congr_left fun x hx => ?_
  show strOne (ofL l) x = x
  unfold strOne
  cases hf : findR (ofL l) (rankB x.1) with
  | none => rfl
  | some z =>
    simp only
    by_cases h0 : x.1 = 0
    · rw [if_neg (fun g => g.1 h0)]
    · obtain ⟨y, hy, hr, hc⟩ := ofN_find 13 hf
      obtain ⟨j, hj, rfl⟩ := List.mem_iff_getElem.1 hy
      obtain ⟨k, hk, rfl⟩ := List.mem_iff_getElem.1 hx
      have hrk : rankB l[k].1 ≠ 0 := ((fldB_count (hm _ hx)).2.2.2 h0).2.1
      have e : j = k := by
        rcases Nat.lt_trichotomy j k with g | g | g
        · exact absurd (tw_apart _ h j k hj hk g hk hr) hrk
        · exact g
        · have := tw_apart _ h k j hk hj g hj hr.symm
          omega
      subst e
      rw [hc, wordsB_self, if_pos ⟨h0, rfl⟩]
theorem str_keeps (w : List PF) (x : PF) : (strOne w x).1 = x.1 ∧ (strOne w x).2.2 = x.2.2 := by
  unfold strOne
  split
  · exact ⟨rfl, rfl⟩
  · split <;> exact ⟨rfl, rfl⟩
theorem stretch_at {l w : List PF} {i : Nat} (h : i < l.length) : (stretchR l w)[i]'(by rw [stretch_len]; exact h) = strOne w l[i] := by
  unfold stretchR
  rw [List.getElem_map]
end Go.Proofs.YtbnhfjhhbgmhfaaDoor
