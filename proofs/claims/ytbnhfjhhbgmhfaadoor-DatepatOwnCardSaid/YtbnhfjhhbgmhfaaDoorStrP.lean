/-
  Patterns of dates: the plain law of Stretch: a field's rank stands at most once in a skeleton. No program in sight.
-/
import Derived.Test.YtbnhfjhhbgmhfaaDoorDpB
namespace Go.Proofs.YtbnhfjhhbgmhfaaDoor
open Go.PlainAid

theorem skInc_gt : ∀ (l : List PF) (p : Nat), SkInc p l → ∀ y ∈ l, p < rankB y.1
  | [], _, _, y, hy => absurd hy (by simp)
  | x :: l, p, h, y, hy => by
    have hx : p < rankB x.1 := h.1.2.2.2.2.1
    rcases List.mem_cons.1 hy with rfl | hy
    · exact hx
    · have := skInc_gt l _ h.2 y hy
      omega
theorem skInc_none : ∀ (l : List PF) (p k : Nat) (_ : SkInc p l) (hk : k < l.length), findR (l.take k) (rankB l[k].1) = none
  | [], _, _, _, hk => absurd hk (by simp)
  | x :: l, p, 0, _, _ => rfl
  | x :: l, p, k + 1, h, hk => by
    have hk' : k < l.length := by simpa using hk
    show findR (x :: l.take k) (rankB l[k].1) = none
    have := skInc_gt l _ h.2 l[k] (List.getElem_mem hk')
    rw [findR_next (by omega)]
    exact skInc_none l _ k h.2 hk'
theorem findR_snoc (l : List PF) (y : PF) (r : Nat) : findR (l ++ [y]) r = match findR l r with | some z => some z | none => if rankB y.1 = r then some y else none := by
  unfold findR
  rw [List.find?_append]
  cases l.find? fun x => rankB x.1 == r with
  | some z => rfl
  | none =>
    simp only [Option.none_or, List.find?_singleton]
    by_cases h : rankB y.1 = r
    · simp [h]
    · simp [h]
/-- A field of another rank turns nothing. -/
theorem str_no {x : List PF} {k : Nat} {f : PF} (hk : k < x.length) (h : rankB f.1 ≠ rankB x[k].1) : strOne (x.take (k + 1)) f = strOne (x.take k) f := by
  unfold strOne
  rw [take_snoc' x k hk, findR_snoc, if_neg (fun e => h e.symm)]
  cases findR (x.take k) (rankB f.1) <;> rfl
theorem str_same {x : List PF} {p k : Nat} {f : PF} (hS : SkInc p x) (hk : k < x.length) (h : rankB f.1 = rankB x[k].1) : strOne (x.take k) f = f := by
  unfold strOne
  rw [h, skInc_none x p k hS hk]
theorem str_hit {x : List PF} {p k : Nat} {f : PF} (hS : SkInc p x) (hk : k < x.length) (h : rankB f.1 = rankB x[k].1) : strOne (x.take (k + 1)) f = if f.1 ≠ 0 ∧ wordsB (rankB f.1) f.2.1 x[k].2.1 = false then (f.1, x[k].2.1, f.2.2) else f := by
  unfold strOne
  rw [take_snoc' x k hk, findR_snoc, h, skInc_none x p k hS hk, if_pos rfl]
theorem str_text {x : List PF} {f : PF} (h : f.1 = 0) : strOne x f = f := by
  unfold strOne
  cases hf : findR x (rankB f.1) with
  | none => rfl
  | some y => simp only; rw [if_neg (fun g => g.1 h)]
/-- The fields before a place are stretched, one stands there, those behind are as they were. -/
def midL (l x : List PF) (i : Nat) (y : PF) : List PF := stretchR (l.take i) x ++ y :: l.drop (i + 1)
def cutL (l x : List PF) (i : Nat) : List PF := stretchR (l.take i) x ++ l.drop i
theorem stretch_len (l x : List PF) : (stretchR l x).length = l.length := by unfold stretchR; rw [List.length_map]
theorem cut_start (l x : List PF) : cutL l x 0 = l := by unfold cutL stretchR; simp
theorem cut_all {l x : List PF} {i : Nat} (h : ¬ i < l.length) : cutL l x i = stretchR l x := by unfold cutL; rw [List.take_of_length_le (by omega), List.drop_eq_nil_of_le (by omega), List.append_nil]
theorem cut_len {l x : List PF} {i : Nat} (h : i ≤ l.length) : (cutL l x i).length = l.length := by unfold cutL; rw [List.length_append, stretch_len, List.length_take, List.length_drop]; omega
theorem mid_len {l x : List PF} {i : Nat} {y : PF} (h : i < l.length) : (midL l x i y).length = l.length := by unfold midL; rw [List.length_append, stretch_len, List.length_take, List.length_cons, List.length_drop]; omega
theorem mid_start {l x : List PF} {i : Nat} (h : i < l.length) : cutL l x i = midL l x i l[i] := by unfold cutL midL; rw [List.drop_eq_getElem_cons h]
theorem mid_end {l x : List PF} {i : Nat} (h : i < l.length) : midL l x i (strOne x l[i]) = cutL l x (i + 1) := by
  unfold cutL midL
  rw [take_snoc' l i h]
  unfold stretchR
  rw [List.map_append, List.append_assoc]
  rfl
theorem mid_head {l x : List PF} {i : Nat} (h : i < l.length) : (stretchR (l.take i) x).length = i := by rw [stretch_len, List.length_take]; omega
theorem sk_inc (s : ByteArray) (h : (skel s).2.1 = 0) : SkInc 0 (skel s).1 := (skel_inc h).1
/-- What Stretch hands back. -/
def dStr (l : List PF) (s : ByteArray) : List PF × Int := if (dpPrint l).2 ≠ 0 then ([], (dpPrint l).2) else if (skel s).2.1 ≠ 0 then ([], 272) else (stretchR l (skel s).1, 0)
end Go.Proofs.YtbnhfjhhbgmhfaaDoor
