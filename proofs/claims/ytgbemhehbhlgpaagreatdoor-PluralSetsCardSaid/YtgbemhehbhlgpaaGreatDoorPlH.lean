/-
  Rules for numbers: when a relation holds, in plain words; noughts taken off the end of a number's digits. No program in sight.
-/
import Derived.Test.YtgbemhehbhlgpaaGreatDoorPlN
namespace Go.Proofs.YtgbemhehbhlgpaaGreatDoor
open Go.PlainAid

theorem digs_step {n : Nat} (h : 10 ≤ n) : digs n = digs (n / 10) ++ ⟨#[UInt8.ofNat (48 + n % 10)]⟩ := by
  unfold digs
  rw [lowD_step n h, List.reverse_cons]
  unfold textL
  rw [List.map_append]
  rfl
theorem digs_one {n : Nat} (h : n < 10) : digs n = ⟨#[UInt8.ofNat (48 + n)]⟩ := by
  unfold digs
  rw [lowD_small n h]
  rfl
theorem digs_last (n : Nat) : bt (digs n) ((digs n).size - 1) = 48 + ((n % 10 : Nat) : Int) := by
  by_cases h : n < 10
  · have hs : (digs n).size = 1 := by rw [digs_one h]; rfl
    rw [hs]
    have : lowD n = [n] := lowD_small n h
    unfold digs
    rw [this]
    have e := bt_textL [n] (by simp; omega) 0 (by simp)
    simp at e
    show bt (textL [n]) 0 = _
    rw [e]
    omega
  · have hl : (lowD n).reverse.length = (lowD (n / 10)).reverse.length + 1 := by rw [lowD_step n (by omega)]; simp
    unfold digs
    rw [textL_size, bt_textL _ (fun d hd => (lowD_canon n).2.1 d (by simpa using hd)) _ (by omega)]
    congr 1
    have : (lowD n).reverse[(lowD n).reverse.length - 1]'(by omega) = n % 10 := by
      simp only [lowD_step n (by omega), List.reverse_cons]
      rw [List.getElem_append_right (by simp)]
      simp
    rw [this]
theorem cut_digs {n : Nat} (h : n % 10 = 0) : cutZ (digs n) = digs (n / 10) := by
  by_cases hn : n < 10
  · have : n = 0 := by omega
    subst this
    unfold cutZ
    rw [if_neg (by rw [digs_one (by decide)]; decide)]
  · unfold cutZ
    have hs := digs_step (n := n) (by omega)
    have hp := digs_pos (n / 10)
    have hz : (digs n).size = (digs (n / 10)).size + 1 := by rw [hs, ByteArray.size_append]; rfl
    rw [if_pos (by omega)]
    refine bytes_eq (by rw [size_sub _ _ _ (by omega)]; omega) fun k hk => ?_
    rw [size_sub _ _ _ (by omega)] at hk
    rw [bt_sub _ _ _ _ hk (by omega), Nat.zero_add, hs, bt_app, if_pos (by omega)]
theorem trimK_le : ∀ (k : Nat) (ds : ByteArray), trimK k ds ≤ k
  | 0, _ => Nat.le_refl _
  | k + 1, ds => by
    simp only [trimK]
    split
    · have := trimK_le k (cutZ ds); omega
    · omega
theorem trim_digs : ∀ (k n : Nat), (n % 10 ^ k = 0 → trimK k (digs n) = k ∧ trimF k (digs n) = digs (n / 10 ^ k)) ∧ (n % 10 ^ k ≠ 0 → trimK k (digs n) < k)
  | 0, n => by
    refine ⟨fun _ => ⟨rfl, ?_⟩, fun h => absurd (Nat.mod_one n) h⟩
    rw [Nat.pow_zero, Nat.div_one]
    rfl
  | k + 1, n => by
    have hl := digs_last n
    have hp : 10 ^ (k + 1) = 10 * 10 ^ k := by rw [Nat.pow_succ, Nat.mul_comm]
    have hm : n % 10 ^ (k + 1) = n % 10 + 10 * (n / 10 % 10 ^ k) := by rw [hp, Nat.mod_mul]
    have hd : n / 10 ^ (k + 1) = n / 10 / 10 ^ k := by rw [hp, Nat.div_div_eq_div_mul]
    simp only [trimK, trimF]
    by_cases h0 : n % 10 = 0
    · rw [if_pos (by rw [hl, h0]; rfl), if_pos (by rw [hl, h0]; rfl), cut_digs h0, hd, hm]
      have ih := trim_digs k (n / 10)
      refine ⟨fun h => ?_, fun h => ?_⟩
      · obtain ⟨h1, h2⟩ := ih.1 (by omega)
        exact ⟨by omega, h2⟩
      · have := ih.2 (by omega)
        omega
    · rw [if_neg (by rw [hl]; omega)]
      refine ⟨fun h => by rw [hm] at h; omega, fun h => by omega⟩

/-- What an operand's letter asks of a decimal: a number and a scale. -/
def opT' (ds : ByteArray) (k : Nat) : Nat := rowval ((lowB ds k).drop (lz (lowB ds k)))
def opD (o : Int) (ds : ByteArray) (k : Nat) : Nat × Nat :=
  if o = 110 then (dval ds, k) else if o = 105 then (dval ds / 10 ^ k, 0) else if o = 102 then (dval ds % 10 ^ k, 0)
  else if o = 116 then (opT' ds k, 0) else if o = 118 then (k, 0) else (opW ds k, 0)
def mdD (b : Nat) (x : Nat × Nat) : Nat × Nat := if b = 0 then x else (x.1 / 10 ^ x.2 % b * 10 ^ x.2 + x.1 % 10 ^ x.2, x.2)
/-- Is a number at a scale a whole one in one of the ranges? -/
def inD (rs : List (Nat × Nat)) (x : Nat × Nat) : Bool := decide (x.1 % 10 ^ x.2 = 0) && inRs rs (x.1 / 10 ^ x.2)
def rlH (ds : ByteArray) (k : Nat) (r : Rl) : Bool := inD r.rs (mdD r.by_ (opD r.op ds k)) != r.nt
def rowsH (ds : ByteArray) (k : Nat) (any : List (List Rl)) : Bool := any.any fun all => all.all (rlH ds k)
/-- A number at a scale that may be a decimal. -/
def NS (x : Nat × Nat) : Prop := (digs x.1).size ≤ 400 ∧ x.2 ≤ 400
theorem digs_le {n m : Nat} (h : n < 10 ^ m) (hm : 1 ≤ m) : (digs n).size ≤ m := by
  unfold digs
  rw [textL_size, List.length_reverse]
  exact lowD_len h hm
theorem digs_lt (n : Nat) : n < 10 ^ (digs n).size := by
  have h := rowval_lt (l := lowD n) (lowD_canon n).2.1
  rw [rowval_lowD] at h
  unfold digs
  rwa [textL_size, List.length_reverse]
theorem digs_mono {n m : Nat} (h : n ≤ m) : (digs n).size ≤ (digs m).size := digs_le (Nat.lt_of_le_of_lt h (digs_lt m)) (digs_pos m)
theorem NS.right {x : Nat × Nat} (h : NS x) : rightB false (digs x.1) (x.2 : Int) = true := digs_right (neg := false) h.1 (by omega) (by have := h.2; omega)
theorem lowB_lt {ds : ByteArray} (h : AllDig ds) (k : Nat) : ∀ d ∈ lowB ds k, d < 10 := fun d hd => by
  unfold lowB at hd
  rw [rowH_eq] at hd
  rcases List.mem_append.1 (List.mem_of_mem_take hd) with g | g
  · exact dl_lt h d (by simpa using g)
  · rw [List.eq_of_mem_replicate g]
    decide
theorem opD_ns {neg : Bool} {ds : ByteArray} {k : Nat} (hr : rightB neg ds k = true) (o : Int) : NS (opD o ds k) := by
  have hg := right_digs hr
  obtain ⟨h1, h2, h3, h4, _, hd⟩ := of_decide_eq_true hr
  have hk : k ≤ 400 := by omega
  have hsm : ∀ n, n ≤ 400 → (digs n).size ≤ 400 := fun n hn => Nat.le_trans (digs_le (m := 3) (by omega) (by decide)) (by decide)
  have hlow : ∀ l : List Nat, (∀ d ∈ l, d < 10) → l.length ≤ 400 → (digs (rowval l)).size ≤ 400 := fun l hl hz => by
    have h := rowval_lt hl
    by_cases h0 : l.length = 0
    · rw [h0] at h
      exact Nat.le_trans (digs_le (m := 1) (by omega) (by decide)) (by decide)
    · exact Nat.le_trans (digs_le h (by omega)) hz
  unfold opD
  split
  · exact ⟨by show (digs (dval ds)).size ≤ 400; rw [hg]; exact h2, hk⟩
  · split
    · refine ⟨Nat.le_trans (digs_mono (Nat.div_le_self _ _)) ?_, Nat.zero_le _⟩
      rw [hg]
      exact h2
    · split
      · refine ⟨?_, Nat.zero_le _⟩
        show (digs (dval ds % 10 ^ k)).size ≤ 400
        by_cases h0 : k = 0
        · subst h0
          rw [Nat.pow_zero, Nat.mod_one]
          exact hsm 0 (by omega)
        · exact Nat.le_trans (digs_le (Nat.mod_lt _ (Nat.pow_pos (by decide))) (by omega)) hk
      · split
        · refine ⟨hlow _ (fun d hd' => ?_) ?_, Nat.zero_le _⟩
          · exact lowB_lt hd k d (List.mem_of_mem_drop hd')
          · rw [List.length_drop, lowB_length]
            omega
        · split
          · exact ⟨hsm k hk, Nat.zero_le _⟩
          · exact ⟨hsm _ (by unfold opW; omega), Nat.zero_le _⟩
theorem mdD_ns {x : Nat × Nat} (h : NS x) (b : Nat) : NS (mdD b x) := by
  unfold mdD
  split
  · exact h
  · rename_i hb
    refine ⟨Nat.le_trans (digs_mono ?_) h.1, h.2⟩
    have h1 := Nat.mod_le (x.1 / 10 ^ x.2) b
    have h2 := Nat.div_add_mod x.1 (10 ^ x.2)
    have h3 := Nat.mul_le_mul_right (10 ^ x.2) h1
    rw [Nat.mul_comm (10 ^ x.2)] at h2
    show x.1 / 10 ^ x.2 % b * 10 ^ x.2 + x.1 % 10 ^ x.2 ≤ x.1
    omega
theorem madeR_ns {n s : Nat} (h1 : (digs n).size ≤ 400) (h2 : s ≤ 400) : madeR false n (s : Int) = (false, digs n, (s : Int), 0) := by
  unfold madeR
  rw [if_neg (by omega)]
  rfl
end Go.Proofs.YtgbemhehbhlgpaaGreatDoor
