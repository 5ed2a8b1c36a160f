/-
  Patterns of dates: a skeleton's one form is read as that skeleton; how far two skeletons are apart. No program in sight.
-/
import Derived.Test.YtbnhfjhhbgmhfaaDoorDpAs
namespace Go.Proofs.YtbnhfjhhbgmhfaaDoor
open Go.PlainAid

theorem bt_left {a b : ByteArray} {i : Nat} (h : i < a.size) : bt (a ++ b) i = bt a i := by
  have h1 : i < (a ++ b).size := by rw [ByteArray.size_append]; omega
  unfold bt
  rw [dif_pos h1, dif_pos h, ByteArray.getElem_append_left]
theorem bt_right {a b : ByteArray} {i : Nat} : bt (a ++ b) (a.size + i) = bt b i := by
  unfold bt
  by_cases h : i < b.size
  · have h1 : a.size + i < (a ++ b).size := by rw [ByteArray.size_append]; omega
    rw [dif_pos h1, dif_pos h, ByteArray.getElem_append_right (by omega)]
    simp
  · rw [dif_neg (by rw [ByteArray.size_append]; omega), dif_neg h]
theorem bt_rep {n : Nat} {b : Int} (h0 : 0 ≤ b) (h1 : b ≤ 255) {i : Nat} (hi : i < n) : bt (repB n b) i = b := by
  have hz := repB_size n b
  unfold bt
  rw [dif_pos (by omega)]
  have : (repB n b)[i]'(by omega) = UInt8.ofNat b.toNat := by
    show (List.replicate n (UInt8.ofNat b.toNat)).toArray[i]'(by simp; omega) = _
    simp
  rw [this]
  have h2 : (UInt8.ofNat b.toNat).toNat = b.toNat := by
    show b.toNat % 256 = b.toNat
    omega
  rw [h2]
  omega
theorem printT_cons (x : PF) (l : List PF) : printT (x :: l) = pieceB x ++ printT l := by
  have key : ∀ (l : List PF) (acc : ByteArray), l.foldl (fun acc x => acc ++ pieceB x) acc = acc ++ l.foldl (fun acc x => acc ++ pieceB x) ByteArray.empty := by
    intro l
    induction l with
    | nil => intro acc; exact ByteArray.append_empty.symm
    | cons y l ih =>
      intro acc
      rw [List.foldl_cons, List.foldl_cons, ih (acc ++ pieceB y), ih (ByteArray.empty ++ pieceB y), ByteArray.empty_append, ByteArray.append_assoc]
  show (x :: l).foldl (fun acc x => acc ++ pieceB x) ByteArray.empty = _
  rw [List.foldl_cons, key, ByteArray.empty_append]
  rfl
/-- The end of a row of one byte that n bytes more make up. -/
theorem runTo_rep {P R : ByteArray} {b : Int} (h0 : 0 ≤ b) (h1 : b ≤ 255) {n : Nat} (hR : R.size = 0 ∨ bt R 0 ≠ b) : ∀ (f j : Nat), n - j = f → j ≤ n → runTo (P ++ (repB n b ++ R)) b (P.size + j) = P.size + n
  | 0, j, hf, hj => by
    have hjn : j = n := by omega
    subst hjn
    have hz := repB_size j b
    refine runTo_stop (fun h => ?_)
    rcases hR with hR | hR
    · have h2 := h.1
      rw [ByteArray.size_append, ByteArray.size_append] at h2
      omega
    · have h2 := h.2
      have h3 := bt_right (a := repB j b) (b := R) (i := 0)
      rw [Nat.add_zero, hz] at h3
      rw [bt_right, h3] at h2
      exact hR h2
  | f + 1, j, hf, hj => by
    have hz := repB_size n b
    rw [runTo_go (by rw [ByteArray.size_append, ByteArray.size_append]; omega) (by rw [bt_right, bt_left (by omega), bt_rep h0 h1 (by omega)])]
    exact runTo_rep h0 h1 hR f (j + 1) (by omega) (by omega)

/-- Fields of a skeleton, their ranks rising from above p on. -/
def SkInc : Nat → List PF → Prop
  | _, [] => True
  | p, x :: l => (x.2.2 = ⟨#[]⟩ ∧ 0 ≤ x.1 ∧ x.1 ≤ 255 ∧ plainB x.1 = x.1 ∧ p < rankB x.1 ∧ rankB x.1 ≠ 8 ∧ 1 ≤ x.2.1 ∧ x.2.1 ≤ mostN (rankB x.1)) ∧ SkInc (rankB x.1) l
theorem SkInc.first {p : Nat} {l : List PF} (h : SkInc p l) (q : Nat) (hq : q ≤ p) : SkInc q l := by
  cases l with
  | nil => trivial
  | cons x l => exact ⟨⟨h.1.1, h.1.2.1, h.1.2.2.1, h.1.2.2.2.1, by have := h.1.2.2.2.2.1; omega, h.1.2.2.2.2.2⟩, h.2⟩
theorem skInc_head {p : Nat} {l : List PF} (h : SkInc p l) {b : Int} (hb : rankB b ≤ p) : (printT l).size = 0 ∨ bt (printT l) 0 ≠ b := by
  cases l with
  | nil => exact .inl rfl
  | cons x l =>
    obtain ⟨xb, xc, xt⟩ := x
    obtain ⟨⟨h1, h2, h3, _, h4, _, h5, _⟩, _⟩ := h
    simp only at h1 h2 h3 h4 h5
    obtain ⟨n, rfl⟩ : ∃ n : Nat, xc = n := ⟨xc.toNat, by omega⟩
    right
    rw [printT_cons, piece_letter h1, bt_left (by rw [repB_size]; omega), bt_rep h2 h3 (by omega)]
    intro e
    rw [e] at h4
    omega
theorem sR_back : ∀ (l : List PF) (P : ByteArray) (p : Nat) (acc : List PF), SkInc p l → sR (P ++ printT l) P.size p acc = (acc ++ l, 0, 0)
  | [], P, p, acc, _ => by
    rw [sR_end (by rw [ByteArray.size_append]; show ¬ P.size < P.size + 0; omega), List.append_nil]
  | x :: l, P, p, acc, h => by
    obtain ⟨xb, xc, xt⟩ := x
    obtain ⟨⟨h1, h2, h3, h4, h5, h6, h7, h8⟩, hl⟩ := h
    simp only at h1 h2 h3 h4 h5 h6 h7 h8 hl
    obtain ⟨n, rfl⟩ : ∃ n : Nat, xc = n := ⟨xc.toNat, by omega⟩
    have hz := repB_size n xb
    have hR := skInc_head hl (b := xb) (Nat.le_refl _)
    rw [printT_cons, piece_letter h1]
    have hb : bt (P ++ (repB n xb ++ printT l)) P.size = xb := by
      have := bt_right (a := P) (b := repB n xb ++ printT l) (i := 0)
      rw [Nat.add_zero] at this
      rw [this, bt_left (by omega), bt_rep h2 h3 (by omega)]
    have hrun := runTo_rep (P := P) (R := printT l) h2 h3 (n := n) hR n 0 (by omega) (Nat.zero_le _)
    rw [Nat.add_zero] at hrun
    rw [sR_step (by rw [ByteArray.size_append, ByteArray.size_append]; omega), hb, hrun, if_neg (by rw [show P.size + n - P.size = n by omega]; omega), h4, show P.size + n - P.size = n by omega]
    have e : P ++ (repB n xb ++ printT l) = (P ++ repB n xb) ++ printT l := ByteArray.append_assoc.symm
    have e2 : P.size + n = (P ++ repB n xb).size := by rw [ByteArray.size_append, hz]
    rw [e, e2, sR_back l (P ++ repB n xb) (rankB xb) _ hl, h1, List.append_assoc]
    rfl
theorem sR_inc (s : ByteArray) : ∀ (f i p : Nat) (l : List PF), s.size - i = f → i ≤ s.size → (sR s i p l).2.1 = 0 → ∃ m, (sR s i p l).1 = l ++ m ∧ SkInc p m ∧ (printT m).size = s.size - i
  | f, i, p, l, hf, hi, h => by
    by_cases hlt : i < s.size
    · have hrm := runTo_more hlt
      have hre := (runTo_ge (s := s) (b := bt s i) _ i rfl).2 hi
      rw [sR_step hlt] at h ⊢
      by_cases hb : rankB (bt s i) ≤ p ∨ rankB (bt s i) = 8 ∨ mostN (rankB (bt s i)) < runTo s (bt s i) i - i
      · rw [if_pos hb] at h
        cases h
      · rw [if_neg hb] at h ⊢
        obtain ⟨m, h1, h2, h3⟩ := sR_inc s _ _ _ _ rfl hre h
        have hp := plain_range (bt s i) (bt_nonneg s i) (bt_le s i)
        refine ⟨(plainB (bt s i), ((runTo s (bt s i) i - i : Nat) : Int), ⟨#[]⟩) :: m, by rw [h1, List.append_assoc]; rfl, ⟨⟨rfl, hp.1, hp.2, ?_, ?_, ?_, ?_, ?_⟩, ?_⟩, ?_⟩
        · simp only
          unfold plainB
          repeat' split
          all_goals first | rfl | (rename_i h1 h2; first | omega | (simp_all)) | simp_all
        · simp only; rw [rank_plain]; omega
        · simp only; rw [rank_plain]; omega
        · simp only; omega
        · simp only; rw [rank_plain]; omega
        · simp only; rw [rank_plain]; exact h2
        · rw [printT_cons, piece_letter rfl, ByteArray.size_append, repB_size, h3]
          omega
    · rw [sR_end hlt]
      exact ⟨[], by simp, trivial, by show 0 = _; omega⟩
  termination_by f => f
  decreasing_by all_goals omega
theorem skel_inc {s : ByteArray} (h : (skel s).2.1 = 0) : SkInc 0 (skel s).1 ∧ (printT (skel s).1).size ≤ 64 := by
  unfold skel at h ⊢
  by_cases h64 : 64 < s.size
  · rw [if_pos h64] at h; cases h
  · rw [if_neg h64] at h ⊢
    obtain ⟨m, h1, h2, h3⟩ := sR_inc s _ 0 0 [] rfl (Nat.zero_le _) h
    rw [h1, List.nil_append]
    exact ⟨h2, by omega⟩
/-- A skeleton's one form is read as that skeleton. -/
theorem skel_back {l : List PF} (h : SkInc 0 l) (hz : (printT l).size ≤ 64) : skel (printT l) = (l, 0, 0) := by
  have e := sR_back l ByteArray.empty 0 [] h
  rw [ByteArray.empty_append, List.nil_append] at e
  unfold skel
  rw [if_neg (by omega)]
  exact e

theorem findR_above {p r : Nat} (hr : r ≤ p) : ∀ l : List PF, SkInc p l → findR l r = none
  | [], _ => rfl
  | x :: l, h => by
    have h1 := h.1.2.2.2.2.1
    have ih := findR_above (p := rankB x.1) (r := r) (by omega) l h.2
    unfold findR at ih ⊢
    rw [List.find?_cons, show (rankB x.1 == r) = false by simp; omega]
    exact ih
theorem findR_first (x : PF) (l : List PF) : findR (x :: l) (rankB x.1) = some x := by
  unfold findR
  rw [List.find?_cons]
  simp
theorem findR_next {x : PF} {l : List PF} {r : Nat} (h : rankB x.1 ≠ r) : findR (x :: l) r = findR l r := by
  unfold findR
  rw [List.find?_cons, show (rankB x.1 == r) = false by simpa using h]
theorem skInc_eq : ∀ (a b : List PF) (p q : Nat), SkInc p a → SkInc q b → (∀ r, 1 ≤ r → r ≤ 13 → dR a b r = 0) → a = b
  | [], [], _, _, _, _, _ => rfl
  | [], y :: b, p, q, _, hb, h => by
    have h1 := h (rankB y.1) (by have := hb.1.2.2.2.2.1; omega) (rankB_le _)
    rw [dR_right rfl (findR_first y b)] at h1
    cases h1
  | x :: a, [], p, q, ha, _, h => by
    have h1 := h (rankB x.1) (by have := ha.1.2.2.2.2.1; omega) (rankB_le _)
    rw [dR_left (findR_first x a) rfl] at h1
    cases h1
  | x :: a, y :: b, p, q, ha, hb, h => by
    have hx := ha.1.2.2.2.2.1
    have hy := hb.1.2.2.2.2.1
    have hrr : rankB x.1 = rankB y.1 := by
      rcases Nat.lt_trichotomy (rankB x.1) (rankB y.1) with hlt | he | hgt
      · have h1 := h (rankB x.1) (by omega) (rankB_le _)
        rw [dR_left (findR_first x a) (by rw [findR_next (by omega)]; exact findR_above (by omega) b hb.2)] at h1
        cases h1
      · exact he
      · have h1 := h (rankB y.1) (by omega) (rankB_le _)
        rw [dR_right (by rw [findR_next (by omega)]; exact findR_above (by omega) a ha.2) (findR_first y b)] at h1
        cases h1
    have h1 := h (rankB x.1) (by omega) (rankB_le _)
    rw [dR_both (findR_first x a) (by rw [hrr]; exact findR_first y b)] at h1
    have hxy : x.1 = y.1 ∧ x.2.1 = y.2.1 := by
      by_cases e : x.1 = y.1
      · rw [if_pos e] at h1
        refine ⟨e, ?_⟩
        split at h1 <;> omega
      · rw [if_neg e] at h1
        exfalso
        split at h1 <;> omega
    have e : x = y := Prod.ext hxy.1 (Prod.ext hxy.2 (by rw [ha.1.1, hb.1.1]))
    subst e
    rw [skInc_eq a b _ _ ha.2 hb.2 (fun r h1 h2 => by
      by_cases hr : rankB x.1 = r
      · subst hr
        exact dR_none (findR_above (Nat.le_refl _) a ha.2) (findR_above (Nat.le_refl _) b hb.2)
      · have := h r h1 h2
        unfold dR at this ⊢
        rw [findR_next hr, findR_next hr] at this
        exact this)]
theorem wordsB_comm (r : Nat) (a b : Int) : wordsB r a b = wordsB r b a := by
  unfold wordsB
  rw [decide_eq_decide]
  omega
theorem wordsB_self (r : Nat) (a : Int) : wordsB r a a = false := by unfold wordsB; exact decide_eq_false (by omega)
theorem dR_comm (a b : List PF) (r : Nat) : dR a b r = dR b a r := by
  cases h1 : findR a r with
  | none =>
    cases h2 : findR b r with
    | none => rw [dR_none h1 h2, dR_none h2 h1]
    | some y => rw [dR_right h1 h2, dR_left h2 h1]
  | some x =>
    cases h2 : findR b r with
    | none => rw [dR_left h1 h2, dR_right h2 h1]
    | some y =>
      rw [dR_both h1 h2, dR_both h2 h1, wordsB_comm, Int.max_comm]
      by_cases e : x.1 = y.1
      · simp only [if_pos e, if_pos e.symm]
      · have e' : ¬ y.1 = x.1 := fun h => e h.symm
        simp only [if_neg e, if_neg e']
theorem dR_self (a : List PF) (r : Nat) : dR a a r = 0 := by
  cases h1 : findR a r with
  | none => rw [dR_none h1 h1]
  | some x => rw [dR_both h1 h1, wordsB_self, if_pos rfl]; simp
theorem apartN_comm (a b : List PF) : ∀ r, apartN a b r = apartN b a r
  | 0 => rfl
  | r + 1 => by
    show apartN a b r + dR a b (r + 1) = apartN b a r + dR b a (r + 1)
    rw [apartN_comm a b r, dR_comm]
theorem apartN_self (a : List PF) : ∀ r, apartN a a r = 0
  | 0 => rfl
  | r + 1 => by
    show apartN a a r + dR a a (r + 1) = 0
    rw [apartN_self a r, dR_self]
    rfl
theorem apartN_zero {a b : List PF} (ha : PSk a) (hb : PSk b) : ∀ r, apartN a b r = 0 → ∀ k, 1 ≤ k → k ≤ r → dR a b k = 0
  | 0, _, k, h1, h2 => by omega
  | r + 1, h, k, h1, h2 => by
    have h' : apartN a b r + dR a b (r + 1) = 0 := h
    have hb1 := apartN_bd ha hb r
    have hb2 := dR_bd ha hb (r + 1)
    by_cases e : k = r + 1
    · subst e; omega
    · exact apartN_zero ha hb r (by omega) k h1 (by omega)
/-- Just what is one is not apart at all. -/
theorem apart_zero {a b : ByteArray} (ha : (skel a).2.1 = 0) (hb : (skel b).2.1 = 0) : apartL (skel a).1 (skel b).1 = 0 ↔ printT (skel a).1 = printT (skel b).1 := by
  obtain ⟨ia, za⟩ := skel_inc ha
  obtain ⟨ib, zb⟩ := skel_inc hb
  constructor
  · intro h
    rw [skInc_eq _ _ 0 0 ia ib (fun r h1 h2 => apartN_zero (skel_sk a) (skel_sk b) 13 h r h1 h2)]
  · intro h
    have e1 := skel_back ia za
    have e2 := skel_back ib zb
    rw [h, e2] at e1
    have e : (skel b).1 = (skel a).1 := (Prod.mk.inj e1).1
    rw [e]
    exact apartN_self _ 13
end Go.Proofs.YtbnhfjhhbgmhfaaDoor
