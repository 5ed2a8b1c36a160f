/-
  Rules for numbers: what a rule's text is read as when it is read again. No program in sight.
-/
import Derived.Test.YtgbemhehbhlgpaaGreatDoorPlH
namespace Go.Proofs.YtgbemhehbhlgpaaGreatDoor
open Go.PlainAid

/-- A text lies in a text at a place. -/
def Has (T : ByteArray) (i : Nat) (u : ByteArray) : Prop := i + u.size ≤ T.size ∧ ∀ j, j < u.size → bt T (i + j) = bt u j
theorem Has.left {T : ByteArray} {i : Nat} {u v : ByteArray} (h : Has T i (u ++ v)) : Has T i u := by
  have h1 := h.1
  rw [ByteArray.size_append] at h1
  refine ⟨by omega, fun j hj => ?_⟩
  rw [h.2 j (by rw [ByteArray.size_append]; omega), bt_app, if_pos hj]
theorem Has.right {T : ByteArray} {i : Nat} {u v : ByteArray} (h : Has T i (u ++ v)) : Has T (i + u.size) v := by
  have h1 := h.1
  rw [ByteArray.size_append] at h1
  refine ⟨by omega, fun j hj => ?_⟩
  have := h.2 (u.size + j) (by rw [ByteArray.size_append]; omega)
  rw [bt_app, if_neg (by omega), Nat.add_sub_cancel_left] at this
  rw [Nat.add_assoc]
  exact this
theorem Has.mk' (a u b : ByteArray) : Has (a ++ u ++ b) a.size u := by
  refine ⟨by rw [ByteArray.size_append, ByteArray.size_append]; omega, fun j hj => ?_⟩
  rw [bt_app, if_pos (by rw [ByteArray.size_append]; omega), bt_app, if_neg (by omega), Nat.add_sub_cancel_left]
theorem Has.all (u : ByteArray) : Has u 0 u := ⟨by omega, fun j _ => by rw [Nat.zero_add]⟩
theorem Has.text {T : ByteArray} {i : Nat} {u : ByteArray} (h : Has T i u) : T.extract i (i + u.size) = u := by
  refine bytes_eq (by rw [size_sub _ _ _ h.1]; omega) fun j hj => ?_
  rw [size_sub _ _ _ h.1] at hj
  rw [bt_sub _ _ _ _ hj h.1, h.2 j (by omega)]
theorem run_is {p : Int → Bool} {T : ByteArray} : ∀ (n i : Nat), (∀ j, j < n → i + j < T.size ∧ p (bt T (i + j)) = true) → ¬ (i + n < T.size ∧ p (bt T (i + n)) = true) → spTo p T i = i + n
  | 0, i, _, he => spTo_stop he
  | n + 1, i, h, he => by
    have h0 : i < T.size ∧ p (bt T i) = true := by simpa using h 0 (by omega)
    rw [spTo_go h0.1 h0.2, run_is n (i + 1) (fun j hj => by have := h (j + 1) (by omega); rwa [show i + (j + 1) = i + 1 + j by omega] at this) (by rwa [show i + (n + 1) = i + 1 + n by omega] at he)]
    omega
theorem tx_of {T : ByteArray} {i : Nat} {u : ByteArray} (h : Has T i u) (hn : tkN T i = u.size) : tx T i = u := by
  unfold tx
  rw [hn]
  exact h.text
theorem tk_dig {T : ByteArray} {i : Nat} {u : ByteArray} (h : Has T i u) (h1 : 1 ≤ u.size) (hd : ∀ j, j < u.size → bDg (bt u j) = true) (he : ¬ (i + u.size < T.size ∧ bDg (bt T (i + u.size)) = true)) : tkN T i = u.size := by
  have h0 := hd 0 (by omega)
  have hb := h.2 0 (by omega)
  rw [Nat.add_zero] at hb
  have h2 := of_decide_eq_true h0
  unfold tkN
  rw [if_neg (by have := h.1; rw [hb]; omega), hb, if_pos h0, run_is u.size i (fun j hj => ⟨by have := h.1; omega, by rw [h.2 j hj]; exact hd j hj⟩) he]
  omega
theorem tk_low {T : ByteArray} {i : Nat} {u : ByteArray} (h : Has T i u) (h1 : 1 ≤ u.size) (hd : ∀ j, j < u.size → bLo (bt u j) = true) (he : ¬ (i + u.size < T.size ∧ bLo (bt T (i + u.size)) = true)) : tkN T i = u.size := by
  have h0 := hd 0 (by omega)
  have hb := h.2 0 (by omega)
  rw [Nat.add_zero] at hb
  have h2 := of_decide_eq_true h0
  have hnd : ¬ bDg (bt u 0) = true := fun g => by have := of_decide_eq_true g; omega
  unfold tkN
  rw [if_neg (by have := h.1; rw [hb]; omega), hb, if_neg hnd, if_pos h0, run_is u.size i (fun j hj => ⟨by have := h.1; omega, by rw [h.2 j hj]; exact hd j hj⟩) he]
  omega
theorem tk_one {T : ByteArray} {i : Nat} {c : UInt8} (h : Has T i ⟨#[c]⟩) (hc : c = 61 ∨ c = 37 ∨ c = 44) : tkN T i = 1 := by
  have h1 : i + 1 ≤ T.size := h.1
  have hb := h.2 0 Nat.zero_lt_one
  rw [Nat.add_zero] at hb
  have hv : bt T i = 61 ∨ bt T i = 37 ∨ bt T i = 44 := by
    rw [hb]
    rcases hc with rfl | rfl | rfl
    · exact .inl rfl
    · exact .inr (.inl rfl)
    · exact .inr (.inr rfl)
  unfold tkN
  rw [if_neg (by omega), if_neg (fun g => by have := of_decide_eq_true g; omega), if_neg (fun g => by have := of_decide_eq_true g; omega), if_neg (by omega)]
theorem tk_two {T : ByteArray} {i : Nat} {a b : UInt8} (h : Has T i ⟨#[a, b]⟩) (hc : (a = 33 ∧ b = 61) ∨ (a = 46 ∧ b = 46)) : tkN T i = 2 := by
  have h1 : i + 2 ≤ T.size := h.1
  have hb := h.2 0 (show 0 < 2 by decide)
  have hb2 := h.2 1 (show 1 < 2 by decide)
  rw [Nat.add_zero] at hb
  have hv : (bt T i = 33 ∧ bt T (i + 1) = 61) ∨ (bt T i = 46 ∧ bt T (i + 1) = 46) := by
    rw [hb, hb2]
    rcases hc with ⟨rfl, rfl⟩ | ⟨rfl, rfl⟩
    · exact .inl ⟨rfl, rfl⟩
    · exact .inr ⟨rfl, rfl⟩
  unfold tkN
  rw [if_neg (by omega), if_neg (fun g => by have := of_decide_eq_true g; omega), if_neg (fun g => by have := of_decide_eq_true g; omega), if_pos ⟨by omega, hv⟩]
theorem tkG_go {T : ByteArray} {q : Nat} (h : q < T.size) (hb : bt T q = 32) : tkG T q = tkG T (q + 1) := spTo_go h (decide_eq_true hb)
theorem tkG_stop {T : ByteArray} {q : Nat} (h : ¬ (q < T.size ∧ bt T q = 32)) : tkG T q = q := spTo_stop fun g => h ⟨g.1, of_decide_eq_true g.2⟩

/-- Behind a place a rule ends or goes on with a joint. -/
def FinR (T : ByteArray) (q : Nat) : Prop := (¬ q < T.size ∨ bt T q = 32) ∧ ((tx T (tkG T q)).size = 0 ∨ tx T (tkG T q) = andB ∨ tx T (tkG T q) = orB)
theorem FinR.dots {T : ByteArray} {q : Nat} (h : FinR T q) : tx T (tkG T q) ≠ ⟨#[46, 46]⟩ ∧ tx T (tkG T q) ≠ ⟨#[44]⟩ := by
  rcases h.2 with h | h | h
  · exact ⟨fun e => (by rw [e] at h; cases h), fun e => (by rw [e] at h; cases h)⟩
  · rw [h]; exact ⟨by decide, by decide⟩
  · rw [h]; exact ⟨by decide, by decide⟩
theorem numOf_dig {u : ByteArray} {n : Nat} (h : numOf u = some n) : 1 ≤ u.size ∧ ∀ j, j < u.size → bDg (bt u j) = true := by
  unfold numOf at h
  split at h
  · rename_i g
    exact ⟨g.1, g.2.2.1⟩
  · cases h
theorem not_dig_stop {T : ByteArray} {q : Nat} (h : ¬ q < T.size ∨ bt T q = 32) : ¬ (q < T.size ∧ bDg (bt T q) = true) := fun g => by
  have := of_decide_eq_true g.2
  omega
theorem app_assoc4 (a b c d : ByteArray) : a ++ b ++ c ++ d = a ++ (b ++ c ++ d) := by simp only [ByteArray.append_assoc]

theorem rngF_a0 {T : ByteArray} {F a n m : Nat} {l : List (Nat × Nat)} {t : ByteArray} (h1 : numOf (tx T a) = some n) (h2 : tx T (nx T a) = ⟨#[46, 46]⟩) (h3 : numOf (tx T (nx T (nx T a))) = some m) (h4 : tx T (nx T (nx T (nx T a))) = ⟨#[44]⟩) :
    rngF T (F + 1) a l t = rngF T F (nx T (nx T (nx T (nx T a)))) (l ++ [(n, m)]) (t ++ tx T a ++ (⟨#[46, 46]⟩ ++ tx T (nx T (nx T a))) ++ ⟨#[44]⟩) := by
  rw [rngF, h1]
  simp only
  rw [if_pos h2, h3]
  simp only
  rw [if_pos h4]
theorem rngF_b0 {T : ByteArray} {F a n m : Nat} {l : List (Nat × Nat)} {t : ByteArray} (h1 : numOf (tx T a) = some n) (h2 : tx T (nx T a) = ⟨#[46, 46]⟩) (h3 : numOf (tx T (nx T (nx T a))) = some m) (h4 : tx T (nx T (nx T (nx T a))) ≠ ⟨#[44]⟩) :
    rngF T (F + 1) a l t = .ok (nx T (nx T (nx T a))) (l ++ [(n, m)]) (t ++ tx T a ++ (⟨#[46, 46]⟩ ++ tx T (nx T (nx T a)))) := by
  rw [rngF, h1]
  simp only
  rw [if_pos h2, h3]
  simp only
  rw [if_neg h4]
theorem rngF_c0 {T : ByteArray} {F a n : Nat} {l : List (Nat × Nat)} {t : ByteArray} (h1 : numOf (tx T a) = some n) (h2 : tx T (nx T a) ≠ ⟨#[46, 46]⟩) (h4 : tx T (nx T a) = ⟨#[44]⟩) :
    rngF T (F + 1) a l t = rngF T F (nx T (nx T a)) (l ++ [(n, n)]) (t ++ tx T a ++ ⟨#[44]⟩) := by
  rw [rngF, h1]
  simp only
  rw [if_neg h2, if_pos h4]
theorem rngF_d0 {T : ByteArray} {F a n : Nat} {l : List (Nat × Nat)} {t : ByteArray} (h1 : numOf (tx T a) = some n) (h2 : tx T (nx T a) ≠ ⟨#[46, 46]⟩) (h4 : tx T (nx T a) ≠ ⟨#[44]⟩) :
    rngF T (F + 1) a l t = .ok (nx T a) (l ++ [(n, n)]) (t ++ tx T a) := by
  rw [rngF, h1]
  simp only
  rw [if_neg h2, if_neg h4]
theorem ok_eq {α : Type} {p p' : Nat} {x x' : α} {t t' : ByteArray} (h1 : p = p') (h2 : x = x') (h3 : t = t') : Pr.ok p x t = Pr.ok p' x' t' := by rw [h1, h2, h3]
set_option maxHeartbeats 1000000 in
theorem rng_again {s : ByteArray} : ∀ (f a : Nat) (l : List (Nat × Nat)) (t : ByteArray) (p : Nat) (l' : List (Nat × Nat)) (t' : ByteArray), rngF s f a l t = .ok p l' t' →
    ∃ l2 x, l' = l ++ l2 ∧ t' = t ++ x ∧ 1 ≤ x.size ∧ bDg (bt x 0) = true ∧ ∀ T i F l0 t0, Has T i x → FinR T (i + x.size) → x.size ≤ F → rngF T F i l0 t0 = .ok (tkG T (i + x.size)) (l0 ++ l2) (t0 ++ x)
  | 0, a, l, t, p, l', t', h => by simp [rngF] at h
  | f + 1, a, l, t, p, l', t', h => by
    simp only [rngF] at h
    cases hn : numOf (tx s a) with
    | none => rw [hn] at h; cases h
    | some n =>
      rw [hn] at h
      simp only at h
      obtain ⟨hu1, hud⟩ := numOf_dig hn
      generalize tx s a = u at *
      by_cases hdd : tx s (nx s a) = ⟨#[46, 46]⟩
      · rw [if_pos hdd] at h
        cases hm : numOf (tx s (nx s (nx s a))) with
        | none => rw [hm] at h; cases h
        | some m =>
          rw [hm] at h
          simp only at h
          obtain ⟨hv1, hvd⟩ := numOf_dig hm
          generalize tx s (nx s (nx s a)) = v at *
          have key : ∀ (T : ByteArray) (i : Nat), Has T i (u ++ (⟨#[46, 46]⟩ ++ v)) → ¬ (i + (u ++ (⟨#[46, 46]⟩ ++ v)).size < T.size ∧ bDg (bt T (i + (u ++ (⟨#[46, 46]⟩ ++ v)).size)) = true) →
              tx T i = u ∧ tx T (nx T i) = ⟨#[46, 46]⟩ ∧ tx T (nx T (nx T i)) = v ∧ nx T (nx T (nx T i)) = tkG T (i + (u ++ (⟨#[46, 46]⟩ ++ v)).size) := by
            intro T i hH he
            have hz : (u ++ (⟨#[46, 46]⟩ ++ v)).size = u.size + 2 + v.size := by rw [ByteArray.size_append, ByteArray.size_append]; show u.size + (2 + v.size) = _; omega
            rw [hz] at he
            have hU := hH.left
            have hD := hH.right.left
            have hV := hH.right.right
            have hV : Has T (i + u.size + 2) v := hV
            have hd0 : bt T (i + u.size) = 46 := by have := hD.2 0 (by decide); rw [Nat.add_zero] at this; rw [this]; rfl
            have k1 := tk_dig hU hu1 hud (fun g => by have := of_decide_eq_true g.2; omega)
            have n1 : nx T i = i + u.size := by unfold nx; rw [k1]; exact tkG_stop (fun g => by omega)
            have k2 := tk_two hD (.inr ⟨rfl, rfl⟩)
            have hv0 : bt T (i + u.size + 2) = bt v 0 := by have := hV.2 0 (by omega); rwa [Nat.add_zero] at this
            have n2 : nx T (i + u.size) = i + u.size + 2 := by
              unfold nx; rw [k2]
              exact tkG_stop (fun g => by have := of_decide_eq_true (hvd 0 (by omega)); omega)
            have k3 := tk_dig hV hv1 hvd (by rw [show i + u.size + 2 + v.size = i + (u.size + 2 + v.size) by omega]; exact he)
            refine ⟨tx_of hU k1, by rw [n1]; exact tx_of hD k2, by rw [n1, n2]; exact tx_of hV k3, ?_⟩
            rw [n1, n2, hz]
            unfold nx
            rw [k3, show i + u.size + 2 + v.size = i + (u.size + 2 + v.size) by omega]
          by_cases hc : tx s (nx s (nx s (nx s a))) = ⟨#[44]⟩
          · rw [if_pos hc] at h
            obtain ⟨l2, x, h1, h2, h3, h4, h5⟩ := rng_again f _ _ _ _ _ _ h
            refine ⟨(n, m) :: l2, u ++ (⟨#[46, 46]⟩ ++ v) ++ ⟨#[44]⟩ ++ x, by rw [h1]; simp, by rw [h2]; simp only [ByteArray.append_assoc], by simp only [ByteArray.size_append]; omega, ?_, ?_⟩
            · rw [bt_app, if_pos (by simp only [ByteArray.size_append]; omega), bt_app, if_pos (by simp only [ByteArray.size_append]; omega), bt_app, if_pos (by omega)]
              exact hud 0 (by omega)
            · intro T i F l0 t0 hH hF hf
              have hz : (u ++ (⟨#[46, 46]⟩ ++ v) ++ ⟨#[44]⟩ ++ x).size = (u ++ (⟨#[46, 46]⟩ ++ v)).size + 1 + x.size := by rw [ByteArray.size_append, ByteArray.size_append]; rfl
              rw [hz] at hF hf
              obtain ⟨F, rfl⟩ : ∃ F', F = F' + 1 := ⟨F - 1, by omega⟩
              have hC := hH.left.right
              have hX := hH.right
              have hX : Has T (i + (u ++ (⟨#[46, 46]⟩ ++ v)).size + 1) x := by
                have e : (u ++ (⟨#[46, 46]⟩ ++ v) ++ (⟨#[44]⟩ : ByteArray)).size = (u ++ (⟨#[46, 46]⟩ ++ v)).size + 1 := by rw [ByteArray.size_append]; rfl
                rw [e] at hX
                exact hX
              have hc0 : bt T (i + (u ++ (⟨#[46, 46]⟩ ++ v)).size) = 44 := by have := hC.2 0 (by decide); rw [Nat.add_zero] at this; rw [this]; rfl
              obtain ⟨e1, e2, e3, e4⟩ := key T i hH.left.left (fun g => by have := of_decide_eq_true g.2; omega)
              have k4 := tk_one hC (.inr (.inr rfl))
              have g4 : tkG T (i + (u ++ (⟨#[46, 46]⟩ ++ v)).size) = i + (u ++ (⟨#[46, 46]⟩ ++ v)).size := tkG_stop (fun g => by omega)
              have hx0 : bt T (i + (u ++ (⟨#[46, 46]⟩ ++ v)).size + 1) = bt x 0 := by have := hX.2 0 (by omega); rwa [Nat.add_zero] at this
              have n4 : nx T (i + (u ++ (⟨#[46, 46]⟩ ++ v)).size) = i + (u ++ (⟨#[46, 46]⟩ ++ v)).size + 1 := by
                unfold nx; rw [k4]
                exact tkG_stop (fun g => by have := of_decide_eq_true h4; omega)
              have hr := h5 T _ F (l0 ++ [(n, m)]) (t0 ++ u ++ (⟨#[46, 46]⟩ ++ v) ++ ⟨#[44]⟩) hX (by rw [show i + (u ++ (⟨#[46, 46]⟩ ++ v)).size + 1 + x.size = i + ((u ++ (⟨#[46, 46]⟩ ++ v)).size + 1 + x.size) by omega]; exact hF) (by simp only [ByteArray.size_append] at hf ⊢; omega)
              have htc := tx_of hC k4
              rw [rngF_a0 (n := n) (m := m) (by rw [e1]; exact hn) e2 (by rw [e3]; exact hm) (by rw [e4, g4]; exact htc), e4, g4, n4, e1, e3, hr, hz]
              exact ok_eq (by rw [show i + (u ++ (⟨#[46, 46]⟩ ++ v)).size + 1 + x.size = i + ((u ++ (⟨#[46, 46]⟩ ++ v)).size + 1 + x.size) by omega]) (by simp) (by simp only [ByteArray.append_assoc])
          · rw [if_neg hc] at h
            injection h with h1 h2 h3
            refine ⟨[(n, m)], u ++ (⟨#[46, 46]⟩ ++ v), h2.symm, by rw [← h3]; simp only [ByteArray.append_assoc], by simp only [ByteArray.size_append]; omega, ?_, ?_⟩
            · rw [bt_app, if_pos (by omega)]
              exact hud 0 (by omega)
            · intro T i F l0 t0 hH hF hf
              obtain ⟨F, rfl⟩ : ∃ F', F = F' + 1 := ⟨F - 1, by simp only [ByteArray.size_append] at hf; omega⟩
              obtain ⟨e1, e2, e3, e4⟩ := key T i hH (not_dig_stop hF.1)
              rw [rngF_b0 (n := n) (m := m) (by rw [e1]; exact hn) e2 (by rw [e3]; exact hm) (by rw [e4]; exact hF.dots.2), e4, e1, e3]
              exact ok_eq rfl rfl (by simp only [ByteArray.append_assoc])
      · rw [if_neg hdd] at h
        have key : ∀ (T : ByteArray) (i : Nat), Has T i u → ¬ (i + u.size < T.size ∧ bDg (bt T (i + u.size)) = true) → tx T i = u ∧ nx T i = tkG T (i + u.size) := by
          intro T i hH he
          have k1 := tk_dig hH hu1 hud he
          exact ⟨tx_of hH k1, by unfold nx; rw [k1]⟩
        by_cases hc : tx s (nx s a) = ⟨#[44]⟩
        · rw [if_pos hc] at h
          obtain ⟨l2, x, h1, h2, h3, h4, h5⟩ := rng_again f _ _ _ _ _ _ h
          refine ⟨(n, n) :: l2, u ++ ⟨#[44]⟩ ++ x, by rw [h1]; simp, by rw [h2]; simp only [ByteArray.append_assoc], by simp only [ByteArray.size_append]; omega, ?_, ?_⟩
          · rw [bt_app, if_pos (by simp only [ByteArray.size_append]; omega), bt_app, if_pos (by omega)]
            exact hud 0 (by omega)
          · intro T i F l0 t0 hH hF hf
            have hz : (u ++ ⟨#[44]⟩ ++ x).size = u.size + 1 + x.size := by rw [ByteArray.size_append, ByteArray.size_append]; rfl
            rw [hz] at hF hf
            obtain ⟨F, rfl⟩ : ∃ F', F = F' + 1 := ⟨F - 1, by omega⟩
            have hC := hH.left.right
            have hX : Has T (i + u.size + 1) x := by
              have hX := hH.right
              have e : (u ++ (⟨#[44]⟩ : ByteArray)).size = u.size + 1 := by rw [ByteArray.size_append]; rfl
              rw [e] at hX
              exact hX
            have hc0 : bt T (i + u.size) = 44 := by have := hC.2 0 (by decide); rw [Nat.add_zero] at this; rw [this]; rfl
            obtain ⟨e1, e2⟩ := key T i hH.left.left (fun g => by have := of_decide_eq_true g.2; omega)
            have k4 := tk_one hC (.inr (.inr rfl))
            have g4 : tkG T (i + u.size) = i + u.size := tkG_stop (fun g => by omega)
            have hx0 : bt T (i + u.size + 1) = bt x 0 := by have := hX.2 0 (by omega); rwa [Nat.add_zero] at this
            have n4 : nx T (i + u.size) = i + u.size + 1 := by
              unfold nx; rw [k4]
              exact tkG_stop (fun g => by have := of_decide_eq_true h4; omega)
            have hr := h5 T _ F (l0 ++ [(n, n)]) (t0 ++ u ++ ⟨#[44]⟩) hX (by rw [show i + u.size + 1 + x.size = i + (u.size + 1 + x.size) by omega]; exact hF) (by omega)
            have hnd : ¬ ((⟨#[44]⟩ : ByteArray) = ⟨#[46, 46]⟩) := by decide
            have htc := tx_of hC k4
            rw [rngF_c0 (n := n) (by rw [e1]; exact hn) (by rw [e2, g4, htc]; exact hnd) (by rw [e2, g4]; exact htc), e2, g4, n4, e1, hr, hz]
            exact ok_eq (by rw [show i + u.size + 1 + x.size = i + (u.size + 1 + x.size) by omega]) (by simp) (by simp only [ByteArray.append_assoc])
        · rw [if_neg hc] at h
          injection h with h1 h2 h3
          refine ⟨[(n, n)], u, h2.symm, h3.symm, hu1, hud 0 (by omega), ?_⟩
          intro T i F l0 t0 hH hF hf
          obtain ⟨F, rfl⟩ : ∃ F', F = F' + 1 := ⟨F - 1, by omega⟩
          obtain ⟨e1, e2⟩ := key T i hH (not_dig_stop hF.1)
          rw [rngF_d0 (n := n) (by rw [e1]; exact hn) (by rw [e2]; exact hF.dots.1) (by rw [e2]; exact hF.dots.2), e2, e1]
end Go.Proofs.YtgbemhehbhlgpaaGreatDoor
