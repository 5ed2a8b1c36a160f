/-
  The walk of dec.Parse behind the point.
-/
import Derived.Test.YtgccppilhbannaaDoorDecE
namespace Go.Proofs.YtgccppilhbannaaDoor
open Go.RowKit Go.PlainAid

set_option maxRecDepth 100000 in
set_option maxHeartbeats 1000000 in
theorem parse_behind' (s : ByteArray) (w : World) (h1 : s.size ≤ 802) (hd : digAt s (pFrom s) = true) (he : pEnd s < s.size) (h46 : bt s (pEnd s) = 46) (k : Nat) (hk1 : pEnd s + 1 ≤ k) (h0 : 0 < pScale s) (hk2 : k ≤ pEnd s + 1 + pScale s) :
    ∃ c, findLabel parseCode 3 = some (.seq .skip c) ∧ ∀ (Q : Exit → Act → World → Prop) (a : Act) (w' : World), ParseJ s w k (pEnd s) a w' →
    (∀ a w', bodyPost Tryd.prog Tryd.f13 (fun e w' => e = .returned (parseV (parseP s)) ∧ Below w.heap.size w w') .ret a w' → Q .ret a w') →
    (∀ a w', k + 1 ≤ pEnd s + 1 + pScale s → ParseJ s w (k + 1) (pEnd s) a w' → Q (.goto 3) a w') → c.wp Tryd.prog Q a w' := by
  refine ⟨_, rfl, ?_⟩
  rintro Q ⟨t, df⟩ w' ⟨rfl, hsz, g0, g2, g3, g4, g5, g6, g7, rfl⟩ hQ hG
  have HQ := Lib.hid hQ; clear hQ
  have HG := Lib.hid hG; clear hG
  obtain ⟨f, hf, rfl⟩ := lit122 t hsz
  rw [hf] at g0 g2 g3 g4 g5 g6 g7
  rw [g0, g2, g3, g4, g5, g6, g7]
  clear hf hsz g0 g2 g3 g4 g5 g6 g7
  have hdig := fun W => isDigit_any s k W
  have hps : pScale s = ndig s (pEnd s + 1) := if_pos he
  obtain ⟨n1, n2⟩ := nd_all s _ (pEnd s + 1) hps.symm
  cases hx : isDig s k with
  | true =>
    rw [hx] at hdig
    have hks : k < s.size := (digAt_iff.1 hx).1
    go_wp2_with fail
    refine (hdig _).mono ?_
    rintro e w' ⟨rfl, rfl⟩
    clear hdig
    go_wp2_with fail
    refine wp_goto (HG.out _ _ ?_ ⟨rfl, rfl, rfl, rfl, rfl, rfl, ?_, rfl, rfl, rfl⟩)
    · by_cases e : k = pEnd s + 1 + pScale s
      · rw [← e] at n2
        rw [show digAt s k = true from hx] at n2
        simp at n2
      · omega
    · exact congrArg (Value.int .i64) (by omega)
  | false =>
    rw [hx] at hdig
    have hke : k = pEnd s + 1 + pScale s := by
      by_cases e : k = pEnd s + 1 + pScale s
      · exact e
      · have := n1 (k - (pEnd s + 1)) (by omega)
        rw [show pEnd s + 1 + (k - (pEnd s + 1)) = k by omega, show digAt s k = false from hx] at this
        simp at this
    clear n1 n2
    have HK := Lib.hid hke; clear hke
    go_wp2_with fail
    refine (hdig _).mono ?_
    rintro e w' ⟨rfl, rfl⟩
    clear hdig
    by_cases hks : k < s.size
    · have HR := Lib.hid (show parseP s = badP k by
        unfold parseP
        rw [if_neg (by omega), if_neg (by rw [hd]; simp), if_neg (fun g => g.2 h46), if_pos ⟨he, .inr (by have := HK.out; omega)⟩, ← HK.out])
      go_wp2_with fail
      refine (wrong_any k _).mono ?_
      rintro e w2 ⟨rfl, hB2⟩
      obtain ⟨z0, z1, c0, c1, c2, c3, c4, f0, f1, f2, f3, f4, hBw⟩ := held2 hB2
      clear hB2
      go_wp2_with fail
      refine HQ.out _ _ (bodyPost_ret (v := parseV (badP k)) (by simp [badP, results, Tryd.results13, go_sem, c0, c1, c2, c3, c4]) rfl ⟨ret_val (by rw [HR.out]), ?_⟩)
      exact below5' hBw rfl
    · have hend := parse_end s w h1 hd (fun _ => ⟨h46, by have := HK.out; omega, by have := HK.out; have := nd_le s (pEnd s + 1); omega⟩)
      rw [if_pos he, show s.size = k by have := HK.out; have := nd_le s (pEnd s + 1); omega] at hend
      have HE := Lib.hid hend; clear hend
      go_wp2_with fail
      refine wp_label ?_
      rename_i K1 hK1
      refine hK1 _ _ (HE.out _ _ _ ?_ ?_)
      · exact ⟨rfl, rfl, rfl, rfl, rfl, rfl, rfl, rfl, rfl, rfl⟩
      · exact HQ.out
theorem parse_behind (s : ByteArray) (w : World) (h1 : s.size ≤ 802) (hd : digAt s (pFrom s) = true) (he : pEnd s < s.size) (h46 : bt s (pEnd s) = 46) (k : Nat) (hk1 : pEnd s + 1 ≤ k) (h0 : 0 < pScale s) (hk2 : k ≤ pEnd s + 1 + pScale s)
    (Q : Exit → Act → World → Prop) (a : Act) (w' : World) (hJ : ParseJ s w k (pEnd s) a w') (hQ : ∀ a w', bodyPost Tryd.prog Tryd.f13 (fun e w' => e = .returned (parseV (parseP s)) ∧ Below w.heap.size w w') .ret a w' → Q .ret a w')
    (hG : ∀ a w', k + 1 ≤ pEnd s + 1 + pScale s → ParseJ s w (k + 1) (pEnd s) a w' → Q (.goto 3) a w') : (afterL 3).wp Tryd.prog Q a w' := by
  obtain ⟨c, hc, hw⟩ := parse_behind' s w h1 hd he h46 k hk1 h0 hk2
  unfold afterL
  rw [hc]
  exact hw Q a w' hJ hQ hG

set_option maxRecDepth 100000 in
set_option maxHeartbeats 1000000 in
theorem parse_point' (s : ByteArray) (w : World) (h1 : s.size ≤ 802) (hd : digAt s (pFrom s) = true) :
    ∃ c, findLabel parseCode 0 = some (.seq .skip c) ∧ ∀ (Q : Exit → Act → World → Prop) (a : Act) (w' : World), ParseJ s w (pEnd s) (-1) a w' →
    (∀ a w', bodyPost Tryd.prog Tryd.f13 (fun e w' => e = .returned (parseV (parseP s)) ∧ Below w.heap.size w w') .ret a w' → Q .ret a w') →
    (∀ (l k : Nat) (p : Int) a w', ParseJ s w k p a w' → (l = 2 ∧ k = s.size ∧ p = -1 ∧ pEnd s = s.size) ∨ (l = 3 ∧ k = pEnd s + 2 ∧ p = pEnd s ∧ pEnd s < s.size ∧ bt s (pEnd s) = 46 ∧ 0 < pScale s ∧ k ≤ pEnd s + 1 + pScale s) → Q (.goto l) a w') → c.wp Tryd.prog Q a w' := by
  refine ⟨_, rfl, ?_⟩
  rintro Q ⟨t, df⟩ w' ⟨rfl, hsz, g0, g2, g3, g4, g5, g6, g7, rfl⟩ hQ hG
  have HQ := Lib.hid hQ; clear hQ
  have HG := Lib.hid hG; clear hG
  obtain ⟨f, hf, rfl⟩ := lit122 t hsz
  rw [hf] at g0 g2 g3 g4 g5 g6 g7
  rw [g0, g2, g3, g4, g5, g6, g7]
  clear hf hsz g0 g2 g3 g4 g5 g6 g7
  obtain ⟨hp1, hp2, _⟩ := pEnd_facts hd
  have hb := get_bt s
  by_cases he : pEnd s < s.size
  · by_cases h46 : bt s (pEnd s) = 46
    · have hdig := fun W => isDigit_any s (pEnd s + 1) W
      rw [show ((pEnd s + 1 : Nat) : Int) = (pEnd s : Int) + 1 by omega] at hdig
      have hps : pScale s = ndig s (pEnd s + 1) := if_pos he
      cases hx : isDig s (pEnd s + 1) with
      | true =>
        rw [hx] at hdig
        have h0 : 0 < pScale s := by have := nd_step (show digAt s (pEnd s + 1) = true from hx); omega
        have hbeh := parse_behind s w h1 hd he h46 (pEnd s + 1) (Nat.le_refl _) h0 (by omega)
        have HB := Lib.hid hbeh; clear hbeh
        have H46 := Lib.hid h46
        have H0 := Lib.hid h0; clear h0 hps
        go_wp2_with fail
        refine (hdig _).mono ?_
        rintro e w' ⟨rfl, rfl⟩
        clear hdig
        go_wp2_with fail
        refine wp_label ?_
        rename_i K1 hK1
        refine hK1 _ _ (HB.out _ _ _ ?_ ?_ ?_)
        · exact ⟨rfl, rfl, rfl, rfl, rfl, rfl, rfl, rfl, rfl, rfl⟩
        · exact HQ.out
        · intro a w' hk hJ
          exact HG.out 3 _ _ a w' hJ (.inr ⟨rfl, rfl, rfl, he, H46.out, H0.out, hk⟩)
      | false =>
        rw [hx] at hdig
        have h0 : pScale s = 0 := by have := nd_stop (show digAt s (pEnd s + 1) = false from hx); omega
        have HR := Lib.hid (show parseP s = badP (pEnd s + 1) by
          unfold parseP
          rw [if_neg (by omega), if_neg (by rw [hd]; simp), if_neg (fun g => g.2 h46), if_pos ⟨he, .inl h0⟩, h0])
        clear hps h0
        go_wp2_with fail
        refine (hdig _).mono ?_
        rintro e w' ⟨rfl, rfl⟩
        clear hdig
        go_wp2_with fail
        refine (wrong_any ((pEnd s : Int) + 1) _).mono ?_
        rintro e w2 ⟨rfl, hB2⟩
        obtain ⟨z0, z1, c0, c1, c2, c3, c4, f0, f1, f2, f3, f4, hBw⟩ := held2 hB2
        clear hB2
        go_wp2_with fail
        refine HQ.out _ _ (bodyPost_ret (v := parseV (badP (pEnd s + 1))) (by simp [badP, results, Tryd.results13, go_sem, c0, c1, c2, c3, c4]) rfl ⟨ret_val (by rw [HR.out]), ?_⟩)
        exact below5' hBw rfl
    · have HR := Lib.hid (show parseP s = badP (pEnd s) by
        unfold parseP
        rw [if_neg (by omega), if_neg (by rw [hd]; simp), if_pos ⟨he, h46⟩])
      go_wp2_with fail
      refine (wrong_any (pEnd s) _).mono ?_
      rintro e w2 ⟨rfl, hB2⟩
      obtain ⟨z0, z1, c0, c1, c2, c3, c4, f0, f1, f2, f3, f4, hBw⟩ := held2 hB2
      clear hB2
      go_wp2_with fail
      refine HQ.out _ _ (bodyPost_ret (v := parseV (badP (pEnd s))) (by simp [badP, results, Tryd.results13, go_sem, c0, c1, c2, c3, c4]) rfl ⟨ret_val (by rw [HR.out]), ?_⟩)
      exact below5' hBw rfl
  · have hes : pEnd s = s.size := by omega
    have HE := Lib.hid hes
    rw [hes]
    clear hes
    go_wp2_with fail
    refine wp_goto (HG.out 2 s.size (-1) _ _ ⟨rfl, rfl, rfl, rfl, rfl, rfl, rfl, rfl, rfl, rfl⟩ (.inl ⟨rfl, rfl, rfl, HE.out⟩))
theorem parse_point (s : ByteArray) (w : World) (h1 : s.size ≤ 802) (hd : digAt s (pFrom s) = true)
    (Q : Exit → Act → World → Prop) (a : Act) (w' : World) (hJ : ParseJ s w (pEnd s) (-1) a w') (hQ : ∀ a w', bodyPost Tryd.prog Tryd.f13 (fun e w' => e = .returned (parseV (parseP s)) ∧ Below w.heap.size w w') .ret a w' → Q .ret a w')
    (hG : ∀ (l k : Nat) (p : Int) a w', ParseJ s w k p a w' → (l = 2 ∧ k = s.size ∧ p = -1 ∧ pEnd s = s.size) ∨ (l = 3 ∧ k = pEnd s + 2 ∧ p = pEnd s ∧ pEnd s < s.size ∧ bt s (pEnd s) = 46 ∧ 0 < pScale s ∧ k ≤ pEnd s + 1 + pScale s) → Q (.goto l) a w') : (afterL 0).wp Tryd.prog Q a w' := by
  obtain ⟨c, hc, hw⟩ := parse_point' s w h1 hd
  unfold afterL
  rw [hc]
  exact hw Q a w' hJ hQ hG

set_option maxRecDepth 100000 in
set_option maxHeartbeats 1000000 in
theorem parse_whole' (s : ByteArray) (w : World) (h1 : s.size ≤ 802) (hd : digAt s (pFrom s) = true) (hn : bt s (pFrom s) ≠ 48) (k : Nat) (hk1 : pFrom s < k) (hk2 : k ≤ pEnd s) :
    ∃ c, findLabel parseCode 1 = some (.seq .skip c) ∧ ∀ (Q : Exit → Act → World → Prop) (a : Act) (w' : World), ParseJ s w k (-1) a w' →
    (∀ a w', bodyPost Tryd.prog Tryd.f13 (fun e w' => e = .returned (parseV (parseP s)) ∧ Below w.heap.size w w') .ret a w' → Q .ret a w') →
    (∀ (l k' : Nat) (p : Int) a w', ParseJ s w k' p a w' → (l = 1 ∧ k' ≤ pEnd s ∧ p = -1 ∧ k' = k + 1) ∨ (l = 2 ∧ k' = s.size ∧ p = -1 ∧ pEnd s = s.size) ∨ (l = 3 ∧ k' = pEnd s + 2 ∧ p = pEnd s ∧ pEnd s < s.size ∧ bt s (pEnd s) = 46 ∧ 0 < pScale s ∧ k' ≤ pEnd s + 1 + pScale s) → Q (.goto l) a w') → c.wp Tryd.prog Q a w' := by
  refine ⟨_, rfl, ?_⟩
  rintro Q ⟨t, df⟩ w' ⟨rfl, hsz, g0, g2, g3, g4, g5, g6, g7, rfl⟩ hQ hG
  have HQ := Lib.hid hQ; clear hQ
  have HG := Lib.hid hG; clear hG
  obtain ⟨f, hf, rfl⟩ := lit122 t hsz
  rw [hf] at g0 g2 g3 g4 g5 g6 g7
  rw [g0, g2, g3, g4, g5, g6, g7]
  clear hf hsz g0 g2 g3 g4 g5 g6 g7
  have hpe : pEnd s = pFrom s + ndig s (pFrom s) := by unfold pEnd; rw [if_neg hn]
  obtain ⟨n1, n2⟩ := nd_all s _ (pFrom s) rfl
  have hle := (pEnd_facts hd).2.1
  have hdig := fun W => isDigit_any s k W
  cases hx : isDig s k with
  | true =>
    rw [hx] at hdig
    have hks : k < s.size := (digAt_iff.1 hx).1
    have hk3 : k + 1 ≤ pEnd s := by
      by_cases e : k = pEnd s
      · rw [← hpe, ← e, show digAt s k = true from hx] at n2
        simp at n2
      · omega
    clear n1 n2 hpe
    go_wp2_with fail
    refine (hdig _).mono ?_
    rintro e w' ⟨rfl, rfl⟩
    clear hdig
    go_wp2_with fail
    refine wp_goto (HG.out 1 (k + 1) (-1) _ _ ⟨rfl, rfl, rfl, rfl, rfl, rfl, ?_, rfl, rfl, rfl⟩ (.inl ⟨rfl, hk3, rfl, rfl⟩))
    exact congrArg (Value.int .i64) (by omega)
  | false =>
    rw [hx] at hdig
    have hke : k = pEnd s := by
      by_cases e : k = pEnd s
      · exact e
      · have := n1 (k - pFrom s) (by omega)
        rw [show pFrom s + (k - pFrom s) = k by omega, show digAt s k = false from hx] at this
        simp at this
    clear n1 n2 hpe
    have hpt := parse_point s w h1 hd
    have HP := Lib.hid hpt; clear hpt
    subst hke
    go_wp2_with fail
    refine (hdig _).mono ?_
    rintro e w' ⟨rfl, rfl⟩
    clear hdig
    go_wp2_with fail
    refine wp_label ?_
    rename_i K1 hK1
    refine hK1 _ _ (HP.out _ _ _ ?_ ?_ ?_)
    · exact ⟨rfl, rfl, rfl, rfl, rfl, rfl, rfl, rfl, rfl, rfl⟩
    · exact HQ.out
    · intro l k p a w' hJ h
      exact HG.out l k p a w' hJ (.inr h)
theorem parse_whole (s : ByteArray) (w : World) (h1 : s.size ≤ 802) (hd : digAt s (pFrom s) = true) (hn : bt s (pFrom s) ≠ 48) (k : Nat) (hk1 : pFrom s < k) (hk2 : k ≤ pEnd s)
    (Q : Exit → Act → World → Prop) (a : Act) (w' : World) (hJ : ParseJ s w k (-1) a w') (hQ : ∀ a w', bodyPost Tryd.prog Tryd.f13 (fun e w' => e = .returned (parseV (parseP s)) ∧ Below w.heap.size w w') .ret a w' → Q .ret a w')
    (hG : ∀ (l k' : Nat) (p : Int) a w', ParseJ s w k' p a w' → (l = 1 ∧ k' ≤ pEnd s ∧ p = -1 ∧ k' = k + 1) ∨ (l = 2 ∧ k' = s.size ∧ p = -1 ∧ pEnd s = s.size) ∨ (l = 3 ∧ k' = pEnd s + 2 ∧ p = pEnd s ∧ pEnd s < s.size ∧ bt s (pEnd s) = 46 ∧ 0 < pScale s ∧ k' ≤ pEnd s + 1 + pScale s) → Q (.goto l) a w') : (afterL 1).wp Tryd.prog Q a w' := by
  obtain ⟨c, hc, hw⟩ := parse_whole' s w h1 hd hn k hk1 hk2
  unfold afterL
  rw [hc]
  exact hw Q a w' hJ hQ hG
end Go.Proofs.YtgccppilhbannaaDoor
