/-
  Patterns of dates: what Print wrote is read as the same fields. The plain law, no program in sight.
-/
import Derived.Test.YtbnhfjhhbgmhfaaDoorDpJ
import Derived.Test.YtbnhfjhhbgmhfaaDoorDpB
namespace Go.Proofs.YtbnhfjhhbgmhfaaDoor
open Go.PlainAid

theorem BAt.mid (P B R : ByteArray) : BAt (P ++ (B ++ R)) P.size B.data.toList := by
  have hB : B.data.toList.length = B.size := Array.length_toList
  refine ⟨by rw [ByteArray.size_append, ByteArray.size_append]; omega, fun k hk => ?_⟩
  rw [bt_right, bt_left (by omega), bt_list B k hk]
theorem putR_putB (l : List PF) (a : List UInt8) (u : ByteArray) : putR (putB l a) u = putR l (baL a ++ u) := by
  unfold putB
  by_cases h : a = []
  · subst h
    rw [if_pos rfl, show baL [] = ByteArray.empty from rfl, ByteArray.empty_append]
  · rw [if_neg h, putR_putR]
theorem baL_list (l : List UInt8) : (baL l).data.toList = l := by simp [baL]
theorem baL_size (l : List UInt8) : (baL l).size = l.length := by show l.toArray.size = _; simp
/-- A text as Print writes it, read. -/
theorem text_read {s t : ByteArray} {i : Nat} {l : List PF} (ht : t.size ≠ 0) (h : BAt s i (dress t).data.toList) (hn : i + (dress t).size < s.size → bt s (i + (dress t).size) ≠ 39) : pR s i l = pR s (i + (dress t).size) (putR l t) := by
  have hsz : t.size = t.data.toList.length := by rw [Array.length_toList]; rfl
  rcases dress_split t with ⟨hL, hd⟩ | ⟨a, x, m, r, hc, hx, ha, hr, hd, _⟩
  · rw [hd] at h ⊢
    rw [baL_list] at h
    rw [baL_size, plain_read _ _ _ hL h]
    congr 1
    unfold putB
    rw [if_neg (fun e => ht (by rw [hsz, e]; rfl)), baL_toList]
  · rw [hd] at h hn ⊢
    rw [baL_list] at h
    rw [baL_size] at hn ⊢
    simp only [List.length_append, List.length_cons] at hn ⊢
    have h1 := h.right
    obtain ⟨hi, hb⟩ := h1.head
    have hb : bt s (i + (dblL a).length) = 39 := hb
    have hx39 : x ≠ 39 := fun e => by rw [e] at hx; revert hx; decide
    have h2 := h1.tail
    have hx2 : bt s (i + (dblL a).length + 1) ≠ 39 := by
      have h3 := h2.left
      rw [dblL_other hx39] at h3
      rw [h3.head.2]
      exact u8_39 hx39
    have h4 := h2.right
    obtain ⟨u, j, hq, hp⟩ := close_read r _ (⟨#[]⟩ ++ baL (x :: m)) (putB l a) hr h4 (by
      rw [show i + (dblL a).length + 1 + (dblL (x :: m)).length + 1 + (dblL r).length = i + ((dblL a).length + ((dblL (x :: m)).length + ((dblL r).length + 1) + 1)) by omega]
      exact hn)
    rw [plain_read a i l ha h.left, pR_step hi, hb, if_neg (by decide), if_neg (by decide), if_neg (fun hh => hx2 hh.2), quote_read (x :: m) _ _ h2.left, hq]
    show pR s j (putR (putB l a) u) = _
    rw [hp, putR_putB, show i + (dblL a).length + 1 + (dblL (x :: m)).length + 1 + (dblL r).length = i + ((dblL a).length + ((dblL (x :: m)).length + ((dblL r).length + 1) + 1)) by omega]
    congr 2
    rw [show (⟨#[]⟩ : ByteArray) = ByteArray.empty from rfl, ByteArray.empty_append, ← baL_append, ← baL_append, ← baL_toList t, hc]
    simp
theorem rank_bLetter {b : Int} (h : rankB b ≠ 0) : bLetter b = true := by
  unfold bLetter
  refine decide_eq_true (Decidable.byContradiction fun hn => h ?_)
  unfold rankB
  repeat (rw [if_neg (by omega)])
/-- The first byte of a text, as Print writes it. -/
theorem dress_first {t : ByteArray} (ht : t.size ≠ 0) : (dress t).size ≠ 0 ∧ bLetter (bt (dress t) 0) = false := by
  have hsz : t.size = t.data.toList.length := by rw [Array.length_toList]; rfl
  have key : ∀ (c : UInt8) (B : List UInt8), bLetter (c.toNat : Int) = false → (baL (c :: B)).size ≠ 0 ∧ bLetter (bt (baL (c :: B)) 0) = false := by
    intro c B hc
    refine ⟨by rw [baL_size]; simp, ?_⟩
    rw [bt_list _ 0 (by rw [baL_list]; simp)]
    simpa [baL] using hc
  have key2 : ∀ (c : UInt8) (A B : List UInt8), bLetter (c.toNat : Int) = false → (baL (dblL (c :: A) ++ B)).size ≠ 0 ∧ bLetter (bt (baL (dblL (c :: A) ++ B)) 0) = false := by
    intro c A B hc
    by_cases h : c = 39
    · subst h
      exact key 39 _ hc
    · rw [dblL_other h]
      exact key c _ hc
  rcases dress_split t with ⟨hL, hd⟩ | ⟨a, x, m, r, hc, hx, ha, hr, hd, _⟩
  · rw [hd]
    cases hl : t.data.toList with
    | nil => exact absurd (by rw [hsz, hl]; rfl) ht
    | cons c A =>
      rw [hl] at hL
      have := key2 c A [] (hL c (by simp))
      rwa [List.append_nil] at this
  · rw [hd]
    cases a with
    | nil => exact key 39 _ (by decide)
    | cons c A => exact key2 c A _ (ha c (by simp))
/-- The first byte of what Print writes behind a field. -/
theorem printT_first {p b : Int} {l : List PF} (h : mayF p l = true) (hl : ∀ x ∈ l, 0 ≤ x.1 ∧ x.1 ≤ 255) (hb : (p = b ∧ b ≠ 0 ∧ bLetter b = true) ∨ (p = 0 ∧ b = 39)) : (printT l).size = 0 ∨ bt (printT l) 0 ≠ b := by
  cases l with
  | nil => exact .inl rfl
  | cons x l =>
    right
    have h' : (fldB x && p != x.1 && mayF x.1 l) = true := h
    simp only [Bool.and_eq_true, bne_iff_ne] at h'
    obtain ⟨⟨h1, h2⟩, _⟩ := h'
    have hc := fldB_count h1
    obtain ⟨xb, xc, xt⟩ := x
    simp only at h2 hc
    rw [printT_cons]
    by_cases h0 : xb = 0
    · subst h0
      have hz : xt.size ≠ 0 := by
        unfold fldB at h1
        rw [if_pos rfl] at h1
        exact (of_decide_eq_true h1).1
      rw [hc.2.2.1 rfl, piece_text rfl, bt_left (by have := (dress_first hz).1; omega)]
      have hf := (dress_first hz).2
      rcases hb with ⟨rfl, _, hb⟩ | ⟨rfl, _⟩
      · exact fun e => by rw [e, hb] at hf; cases hf
      · exact absurd rfl h2
    · obtain ⟨ht, hr, h3⟩ := hc.2.2.2 h0
      obtain ⟨n, rfl⟩ : ∃ n : Nat, xc = (n : Int) := ⟨xc.toNat, by omega⟩
      have hx := hl (xb, (n : Int), xt) (by simp)
      simp only at hx ht hr h3
      rw [piece_letter ht, bt_left (by rw [repB_size]; omega), bt_rep hx.1 hx.2 (by omega)]
      rcases hb with ⟨rfl, _, _⟩ | ⟨_, rfl⟩
      · exact fun e => h2 e.symm
      · intro e
        subst e
        exact hr rfl
/-- Fields end at a field of this letter. -/
def EndsAt (acc : List PF) (p : Int) : Prop := (acc = [] ∧ p ≠ 0) ∨ ∃ a c u, acc = a ++ [(p, c, u)]
theorem EndsAt.put {acc : List PF} {p : Int} (h : EndsAt acc p) (hp : p ≠ 0) (t : ByteArray) : putR acc t = acc ++ [(0, 0, t)] := by
  rcases h with ⟨rfl, _⟩ | ⟨a, c, u, rfl⟩
  · rfl
  · exact putR_letter hp
/-- What Print wrote is read as the same fields. -/
theorem read_back : ∀ (l : List PF) (p : Int) (acc : List PF) (P : ByteArray), (∀ x ∈ l, 0 ≤ x.1 ∧ x.1 ≤ 255) → mayF p l = true → EndsAt acc p → pR (P ++ printT l) P.size acc = (acc ++ l, 0, 0)
  | [], p, acc, P, _, _, _ => by
    rw [show printT [] = ByteArray.empty from rfl, ByteArray.append_empty, pR_end (by omega), List.append_nil]
  | x :: l, p, acc, P, hl, h, he => by
    have h' : (fldB x && p != x.1 && mayF x.1 l) = true := h
    simp only [Bool.and_eq_true, bne_iff_ne] at h'
    obtain ⟨⟨h1, h2⟩, h3⟩ := h'
    have hc := fldB_count h1
    have hlt : ∀ x ∈ l, 0 ≤ x.1 ∧ x.1 ≤ 255 := fun y hy => hl y (List.mem_cons_of_mem _ hy)
    obtain ⟨xb, xc, xt⟩ := x
    simp only at h2 h3 hc
    rw [printT_cons]
    by_cases h0 : xb = 0
    · subst h0
      have hz : xt.size ≠ 0 := by
        unfold fldB at h1
        rw [if_pos rfl] at h1
        exact (of_decide_eq_true h1).1
      rw [hc.2.2.1 rfl, piece_text rfl]
      have hf := printT_first (b := 39) h3 hlt (.inr ⟨rfl, rfl⟩)
      have hsz : (P ++ (dress xt ++ printT l)).size = P.size + ((dress xt).size + (printT l).size) := by rw [ByteArray.size_append, ByteArray.size_append]
      rw [text_read (i := P.size) (l := acc) hz (BAt.mid P (dress xt) (printT l)) (fun hlt => ?_), he.put (Ne.symm (Ne.symm h2))]
      · rw [show P ++ (dress xt ++ printT l) = (P ++ dress xt) ++ printT l from ByteArray.append_assoc.symm, show P.size + (dress xt).size = (P ++ dress xt).size by rw [ByteArray.size_append], read_back l 0 _ (P ++ dress xt) hlt h3 (.inr ⟨_, _, _, rfl⟩), List.append_assoc]
        rfl
      · rcases hf with hf | hf
        · omega
        · have := bt_right (a := dress xt) (b := printT l) (i := 0)
          rw [Nat.add_zero] at this
          rw [bt_right, this]
          exact hf
    · obtain ⟨ht, hr, hc3⟩ := hc.2.2.2 h0
      obtain ⟨n, rfl⟩ : ∃ n : Nat, xc = (n : Int) := ⟨xc.toNat, by omega⟩
      have hx := hl (xb, (n : Int), xt) (by simp)
      simp only at hx ht hr hc3
      have hmost : (n : Int) ≤ mostN (rankB xb) := by
        unfold fldB at h1
        rw [if_neg h0] at h1
        exact (of_decide_eq_true h1).2.2.2
      have hz := repB_size n xb
      rw [piece_letter ht]
      have hR := printT_first (b := xb) h3 hlt (.inl ⟨rfl, h0, rank_bLetter hr⟩)
      have hb : bt (P ++ (repB n xb ++ printT l)) P.size = xb := by
        have := bt_right (a := P) (b := repB n xb ++ printT l) (i := 0)
        rw [Nat.add_zero] at this
        rw [this, bt_left (by omega), bt_rep hx.1 hx.2 (by omega)]
      have hrun := runTo_rep (P := P) (R := printT l) hx.1 hx.2 (n := n) hR n 0 (by omega) (Nat.zero_le _)
      rw [Nat.add_zero] at hrun
      rw [pR_step (by rw [ByteArray.size_append, ByteArray.size_append]; omega), hb, hrun, if_pos (rank_bLetter hr), if_neg (by rw [show P.size + n - P.size = n by omega]; omega), show P.size + n - P.size = n by omega]
      have e : P ++ (repB n xb ++ printT l) = (P ++ repB n xb) ++ printT l := ByteArray.append_assoc.symm
      have e2 : P.size + n = (P ++ repB n xb).size := by rw [ByteArray.size_append, hz]
      subst ht
      rw [e, e2, read_back l xb _ (P ++ repB n xb) hlt h3 (.inr ⟨_, _, _, rfl⟩), List.append_assoc]
      rfl
end Go.Proofs.YtbnhfjhhbgmhfaaDoor
