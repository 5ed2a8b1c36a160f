/-
  What was read may be. The plain law, no program in sight.
-/
import Derived.Test.YtbnhfjhhbgmhfaaDoorDpJd
namespace Go.Proofs.YtbnhfjhhbgmhfaaDoor
open Go.PlainAid

/-- The letter of the last field, or what stood before. -/
def lastP (p : Int) (l : List PF) : Int := match l.getLast? with | none => p | some x => x.1
theorem lastP_snoc (p : Int) (l : List PF) (x : PF) : lastP p (l ++ [x]) = x.1 := by unfold lastP; simp
theorem lastP_cons (p : Int) (x : PF) (l : List PF) : lastP p (x :: l) = lastP x.1 l := by
  unfold lastP
  rw [List.getLast?_cons]
  cases l.getLast? <;> rfl
theorem mayF_snoc : ∀ (l : List PF) (p : Int) (x : PF), mayF p (l ++ [x]) = true ↔ mayF p l = true ∧ fldB x = true ∧ lastP p l ≠ x.1
  | [], p, x => by
    show (fldB x && p != x.1 && true) = true ↔ _
    simp only [Bool.and_eq_true, bne_iff_ne, Bool.and_true]
    exact ⟨fun h => ⟨rfl, h.1, h.2⟩, fun h => ⟨h.2.1, h.2.2⟩⟩
  | y :: l, p, x => by
    show (fldB y && p != y.1 && mayF y.1 (l ++ [x])) = true ↔ (fldB y && p != y.1 && mayF y.1 l) = true ∧ _
    simp only [Bool.and_eq_true, bne_iff_ne]
    rw [mayF_snoc l y.1 x, lastP_cons]
    constructor
    · rintro ⟨h1, h2, h3, h4⟩; exact ⟨⟨h1, h2⟩, h3, h4⟩
    · rintro ⟨⟨h1, h2⟩, h3, h4⟩; exact ⟨h1, h2, h3, h4⟩
theorem fldB_text {c : Int} {u : ByteArray} (h : fldB (0, c, u) = true) : c = 0 ∧ VL u.data.toList := by
  unfold fldB at h
  rw [if_pos rfl] at h
  have h := of_decide_eq_true h
  exact ⟨h.2.1, VL.of_valid h.2.2⟩
theorem fldB_mk {u : ByteArray} (h0 : u.size ≠ 0) (h : VL u.data.toList) : fldB (0, 0, u) = true := by
  unfold fldB
  rw [if_pos rfl]
  exact decide_eq_true ⟨h0, rfl, h.valid⟩
theorem mayB_put {l : List PF} (h : mayB l = true) {t : ByteArray} (h0 : t.size ≠ 0) (hv : VL t.data.toList) : mayB (putR l t) = true ∧ lastP (-1) (putR l t) = 0 := by
  unfold mayB at h ⊢
  rcases List.eq_nil_or_concat l with rfl | ⟨l', ⟨b, c, u⟩, rfl⟩
  · rw [putR_nil]
    refine ⟨?_, rfl⟩
    exact (mayF_snoc [] (-1) (0, 0, t)).2 ⟨rfl, fldB_mk h0 hv, by show (-1 : Int) ≠ 0; decide⟩
  · rw [List.concat_eq_append] at h ⊢
    by_cases hb : b = 0
    · subst hb
      obtain ⟨h1, h2, h3⟩ := (mayF_snoc l' (-1) (0, c, u)).1 h
      obtain ⟨rfl, hu⟩ := fldB_text h2
      rw [putR_text]
      refine ⟨(mayF_snoc l' (-1) _).2 ⟨h1, fldB_mk (by rw [ByteArray.size_append]; omega) ?_, h3⟩, lastP_snoc _ _ _⟩
      rw [ByteArray.data_append, Array.toList_append]
      exact hu.append hv
    · rw [putR_letter hb]
      refine ⟨(mayF_snoc _ (-1) _).2 ⟨h, fldB_mk h0 hv, ?_⟩, lastP_snoc _ _ _⟩
      rw [lastP_snoc]
      exact hb
/-- The first rune of what stands from a place on. -/
theorem VL.first {s : ByteArray} {i : Nat} (hi : i < s.size) (h : VL (s.data.toList.drop i)) : (bt s i < 128 ∧ VL (s.data.toList.drop (i + 1))) ∨ ∃ b, Blk4 b ∧ BAt s i b ∧ VL (s.data.toList.drop (i + b.length)) := by
  have hsz : s.data.toList.length = s.size := Array.length_toList
  generalize hg : s.data.toList.drop i = d at h
  cases h with
  | nil =>
    have := congrArg List.length hg
    rw [List.length_drop] at this
    simp at this
    omega
  | @one c t hc ht =>
    left
    rw [List.drop_eq_getElem_cons (by omega)] at hg
    injection hg with h1 h2
    rw [h2]
    refine ⟨?_, ht⟩
    rw [bt_list s i (by omega), h1]
    omega
  | @blk b t hb ht =>
    right
    have hl := congrArg List.length hg
    rw [List.length_drop, List.length_append] at hl
    refine ⟨b, hb, ?_, ?_⟩
    · have := BAt.self s i (s.size - i) (by omega)
      rw [List.take_of_length_le (by rw [List.length_drop]; omega), hg] at this
      exact this.left
    · rw [← List.drop_drop, hg, List.drop_left]
      exact ht
theorem qR_valid (s : ByteArray) : ∀ (f i : Nat) (acc t : ByteArray) (j : Nat), s.size - i = f → VL (s.data.toList.drop i) → VL acc.data.toList → qR s i acc = some (t, j) → VL t.data.toList ∧ VL (s.data.toList.drop j)
  | f, i, acc, t, j, hf, hv, ha, h => by
    by_cases hi : i < s.size
    · rcases hv.first hi with ⟨h1, hv1⟩ | ⟨b, hb, hat, hv1⟩
      · by_cases hq : bt s i = 39
        · by_cases h2 : i + 1 < s.size ∧ bt s (i + 1) = 39
          · rw [qR_two h2.1 hq h2.2] at h
            have hv2 : VL (s.data.toList.drop (i + 2)) := by
              rcases hv1.first h2.1 with ⟨_, h3⟩ | ⟨b, hb, hat, _⟩
              · exact h3
              · exfalso
                have h0 := hat.2 0 (by have := hb.2.1; omega)
                rw [Nat.add_zero, h2.2] at h0
                have := hb.1 _ (List.getElem_mem (l := b) (n := 0) (by have := hb.2.1; omega))
                omega
            refine qR_valid s _ (i + 2) _ t j rfl hv2 ?_ h
            rw [ByteArray.data_append, Array.toList_append]
            exact ha.append (.one (by decide) .nil)
          · rw [qR_close hi hq h2] at h
            have := Option.some.inj h
            injection this with e1 e2
            subst e1 e2
            exact ⟨ha, hv1⟩
        · rw [qR_plain hi hq] at h
          refine qR_valid s _ (i + 1) _ t j rfl hv1 ?_ h
          have hil : i < s.data.toList.length := by rw [Array.length_toList]; exact hi
          rw [one_at hi (bt_list s i hil), ByteArray.data_append, Array.toList_append, baL_list]
          rw [bt_list s i hil] at h1
          exact ha.append (.one (by omega) .nil)
      · have hat' : BAt s i (dblL b) := by rw [dblL_big hb.1]; exact hat
        rw [quote_read b i acc hat', dblL_big hb.1] at h
        have h2 := hb.2.1
        refine qR_valid s _ (i + b.length) _ t j rfl hv1 ?_ h
        rw [ByteArray.data_append, Array.toList_append, baL_list]
        have := VL.blk hb .nil
        rw [List.append_nil] at this
        exact ha.append this
    · rw [qR_end hi] at h
      cases h
  termination_by f => f
  decreasing_by all_goals omega
theorem run_valid {s : ByteArray} {b : Int} (hb : b < 128) : ∀ (f i : Nat), s.size - i = f → VL (s.data.toList.drop i) → VL (s.data.toList.drop (runTo s b i)) ∧ (runTo s b i < s.size → bt s (runTo s b i) ≠ b)
  | f, i, hf, hv => by
    by_cases h : i < s.size ∧ bt s i = b
    · rw [runTo_go h.1 h.2]
      have hv1 : VL (s.data.toList.drop (i + 1)) := by
        rcases hv.first h.1 with ⟨_, h3⟩ | ⟨c, hc, hat, _⟩
        · exact h3
        · exfalso
          have h0 := hat.2 0 (by have := hc.2.1; omega)
          rw [Nat.add_zero, h.2] at h0
          have := hc.1 _ (List.getElem_mem (l := c) (n := 0) (by have := hc.2.1; omega))
          omega
      exact run_valid hb _ (i + 1) rfl hv1
    · rw [runTo_stop h]
      exact ⟨hv, fun h1 h2 => h ⟨h1, h2⟩⟩
  termination_by f => f
  decreasing_by all_goals omega
theorem pR_may (s : ByteArray) : ∀ (f i : Nat) (l : List PF), s.size - i = f → i ≤ s.size → VL (s.data.toList.drop i) → mayB l = true → (i < s.size → bt s i ≠ lastP (-1) l ∨ lastP (-1) l = 0) → (pR s i l).2.1 = 0 → mayB (pR s i l).1 = true
  | f, i, l, hf, hi, hv, hm, hp, h => by
    by_cases hlt : i < s.size
    · have hrm := runTo_more hlt
      have hre := (runTo_ge (s := s) (b := bt s i) _ i rfl).2 hi
      rcases hv.first hlt with ⟨h1, hv1⟩ | ⟨b, hb, hat, hv1⟩
      · rw [pR_step hlt] at h ⊢
        by_cases hL : bLetter (bt s i) = true
        · rw [if_pos hL] at h ⊢
          by_cases hc : rankB (bt s i) = 0 ∨ mostN (rankB (bt s i)) < runTo s (bt s i) i - i
          · rw [if_pos hc] at h; cases h
          · rw [if_neg hc] at h ⊢
            have h0 : bt s i ≠ 0 := fun e => by rw [e] at hL; revert hL; decide
            obtain ⟨hv2, hne⟩ := run_valid h1 _ i rfl hv
            refine pR_may s _ _ _ rfl hre hv2 ?_ (fun hh => ?_) h
            · refine (mayF_snoc l (-1) _).2 ⟨hm, ?_, ?_⟩
              · unfold fldB
                simp only
                rw [if_neg h0]
                exact decide_eq_true ⟨rfl, by omega, by omega, by omega⟩
              · rcases hp hlt with h2 | h2
                · exact Ne.symm h2
                · show lastP (-1) l ≠ bt s i
                  omega
            · rw [lastP_snoc]
              exact .inl (hne hh)
        · rw [if_neg hL] at h ⊢
          by_cases h39 : bt s i ≠ 39
          · rw [if_pos h39] at h ⊢
            have hil : i < s.data.toList.length := by rw [Array.length_toList]; exact hlt
            have e := one_at hlt (bt_list s i hil)
            have hput := mayB_put hm (t := s.extract i (i + 1)) (by rw [e, baL_size]; simp) (by rw [e, baL_list]; rw [bt_list s i hil] at h1; exact .one (by omega) .nil)
            exact pR_may s _ _ _ rfl (by omega) hv1 hput.1 (fun _ => .inr hput.2) h
          · rw [if_neg h39] at h ⊢
            by_cases h2 : i + 1 < s.size ∧ bt s (i + 1) = 39
            · rw [if_pos h2] at h ⊢
              have hput := mayB_put hm (t := ⟨#[39]⟩) (by decide) (.one (by decide) .nil)
              have hv2 := (run_valid (b := 39) (by decide) _ (i + 1) rfl hv1).1
              have hv3 : VL (s.data.toList.drop (i + 2)) := by
                rcases hv1.first h2.1 with ⟨_, h3⟩ | ⟨c, hc, hat, _⟩
                · exact h3
                · exfalso
                  have h0 := hat.2 0 (by have := hc.2.1; omega)
                  rw [Nat.add_zero, h2.2] at h0
                  have := hc.1 _ (List.getElem_mem (l := c) (n := 0) (by have := hc.2.1; omega))
                  omega
              exact pR_may s _ _ _ rfl (by omega) hv3 hput.1 (fun _ => .inr hput.2) h
            · rw [if_neg h2] at h ⊢
              cases hq : qR s (i + 1) ⟨#[]⟩ with
              | none => rw [hq] at h; cases h
              | some x =>
                obtain ⟨t, j⟩ := x
                rw [hq] at h
                obtain ⟨j1, j2, j3, j4⟩ := qR_some _ _ _ _ _ rfl hq
                obtain ⟨v1, v2⟩ := qR_valid s _ _ _ _ _ rfl hv1 .nil hq
                have hne : t.size ≠ 0 := by
                  have hi1 : i + 1 < s.size := by
                    apply Decidable.byContradiction; intro hc; rw [qR_end hc] at hq; cases hq
                  rw [qR_plain hi1 (fun e => h2 ⟨hi1, e⟩)] at hq
                  have := (qR_some _ _ _ _ _ rfl hq).2.2.1
                  rw [ByteArray.size_append] at this
                  simp at this
                  omega
                have hput := mayB_put hm hne v1
                exact pR_may s _ _ _ rfl j2 v2 hput.1 (fun _ => .inr hput.2) h
      · have h2 := hb.2.1
        have hat' : BAt s i (dblL b) := by rw [dblL_big hb.1]; exact hat
        have hnl : ∀ c ∈ b, bLetter (c.toNat : Int) = false := fun c hc => decide_eq_false (by have := hb.1 c hc; omega)
        have hput0 : putB l b = putR l (baL b) := by unfold putB; rw [if_neg (fun e => by rw [e] at h2; simp at h2)]
        have hbv := VL.blk hb .nil
        rw [List.append_nil] at hbv
        have hput := mayB_put hm (t := baL b) (by rw [baL_size]; omega) (by rw [baL_list]; exact hbv)
        rw [plain_read b i l hnl hat', dblL_big hb.1, hput0] at h ⊢
        exact pR_may s _ _ _ rfl (by have := hat.1; omega) hv1 hput.1 (fun _ => .inr hput.2) h
    · rw [pR_end hlt]
      exact hm
  termination_by f => f
  decreasing_by all_goals omega
theorem parse_may {s : ByteArray} (h : (dpParse s).2.1 = 0) : mayB (dpParse s).1 = true := by
  unfold dpParse at h ⊢
  by_cases h4 : 4096 < s.size
  · rw [if_pos h4] at h; cases h
  · rw [if_neg h4] at h ⊢
    by_cases hb : 0 ≤ brk s 0
    · rw [if_pos hb] at h; cases h
    · rw [if_neg hb] at h ⊢
      exact pR_may s _ 0 [] rfl (Nat.zero_le _) (VL.of_brk s _ 0 rfl (Nat.zero_le _) (by omega)) rfl (fun _ => .inl (by show bt s 0 ≠ -1; have := bt_nonneg s 0; omega)) h
end Go.Proofs.YtbnhfjhhbgmhfaaDoor
