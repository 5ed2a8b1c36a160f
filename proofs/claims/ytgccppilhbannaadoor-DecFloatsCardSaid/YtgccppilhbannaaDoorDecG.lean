/-
  dec.Parse at every text.
-/
import Derived.Test.YtgccppilhbannaaDoorDecF
namespace Go.Proofs.YtgccppilhbannaaDoor
open Go.RowKit Go.PlainAid

/-- What holds at each label. -/
def ParseL (s : ByteArray) (w : World) (l : Nat) (a : Act) (w' : World) : Prop :=
  s.size ≤ 802 ∧ digAt s (pFrom s) = true ∧ ∃ k : Nat, ∃ p : Int, ParseJ s w k p a w' ∧
    ((l = 0 ∧ k = pEnd s ∧ p = -1) ∨ (l = 1 ∧ bt s (pFrom s) ≠ 48 ∧ pFrom s < k ∧ k ≤ pEnd s ∧ p = -1) ∨ (l = 2 ∧ k = s.size ∧ p = -1 ∧ pEnd s = s.size) ∨
      (l = 3 ∧ pEnd s + 1 ≤ k ∧ p = pEnd s ∧ pEnd s < s.size ∧ bt s (pEnd s) = 46 ∧ 0 < pScale s ∧ k ≤ pEnd s + 1 + pScale s))
def ParseM (l : Nat) (a : Act) (_ : World) : Nat :=
  if l = 2 then 0 else if l = 3 then 1 + (2000 - (intOf (a.tmps.getD 5 undef)).toNat) else if l = 0 then 5000 else 10000 + (2000 - (intOf (a.tmps.getD 5 undef)).toNat)
theorem parseM_of {s : ByteArray} {w : World} {k : Nat} {p : Int} {a : Act} {w' : World} (h : ParseJ s w k p a w') : (intOf (a.tmps.getD 5 undef)).toNat = k := by
  obtain ⟨_, _, _, _, _, _, h5, _⟩ := h
  rw [h5]
  simp [intOf]

theorem parse_pass (s : ByteArray) (w : World) (Q : Exit → Act → World → Prop)
    (hQ : ∀ a w', bodyPost Tryd.prog Tryd.f13 (fun e w' => e = .returned (parseV (parseP s)) ∧ Below w.heap.size w w') .ret a w' → Q .ret a w')
    (l : Nat) (a : Act) (w' : World) (hL : ParseL s w l a w') :
    ∃ rest, findLabel parseCode l = some rest ∧ rest.wp Tryd.prog (jumps (fun l' a' w'' => ParseL s w l' a' w'' ∧ ParseM l' a' w'' < ParseM l a w') Q) a w' := by
  obtain ⟨h1, hd, k, p, hJ, h⟩ := hL
  have hle := (pEnd_facts hd).2.1
  have hk := parseM_of hJ
  rcases h with ⟨rfl, rfl, rfl⟩ | ⟨rfl, hn, hk1, hk2, rfl⟩ | ⟨rfl, rfl, rfl, he⟩ | ⟨rfl, hk1, rfl, he, h46, h0, hk2⟩
  · refine ⟨.seq .skip (afterL 0), rfl, wp_seq (wp_skip ?_)⟩
    refine parse_point s w h1 hd _ a w' hJ (fun a w' hr => hQ a w' hr) ?_
    intro l' k' p' a' w'' hJ' h'
    have hk' := parseM_of hJ'
    rcases h' with ⟨rfl, rfl, rfl, he⟩ | ⟨rfl, h6, rfl, he, h46, h0, h7⟩
    · exact ⟨⟨h1, hd, _, _, hJ', .inr (.inr (.inl ⟨rfl, rfl, rfl, he⟩))⟩, by unfold ParseM; simp <;> omega⟩
    · exact ⟨⟨h1, hd, _, _, hJ', .inr (.inr (.inr ⟨rfl, by omega, rfl, he, h46, h0, h7⟩))⟩, by unfold ParseM; simp <;> omega⟩
  · refine ⟨.seq .skip (afterL 1), rfl, wp_seq (wp_skip ?_)⟩
    refine parse_whole s w h1 hd hn k hk1 hk2 _ a w' hJ (fun a w' hr => hQ a w' hr) ?_
    intro l' k' p' a' w'' hJ' h'
    have hk' := parseM_of hJ'
    rcases h' with ⟨rfl, h5, rfl, h6⟩ | ⟨rfl, rfl, rfl, he⟩ | ⟨rfl, h6, rfl, he, h46, h0, h7⟩
    · exact ⟨⟨h1, hd, _, _, hJ', .inr (.inl ⟨rfl, hn, by omega, h5, rfl⟩)⟩, by unfold ParseM; rw [hk, hk']; simp; omega⟩
    · exact ⟨⟨h1, hd, _, _, hJ', .inr (.inr (.inl ⟨rfl, rfl, rfl, he⟩))⟩, by unfold ParseM; simp <;> omega⟩
    · exact ⟨⟨h1, hd, _, _, hJ', .inr (.inr (.inr ⟨rfl, by omega, rfl, he, h46, h0, h7⟩))⟩, by unfold ParseM; simp <;> omega⟩
  · refine ⟨.seq .skip (afterL 2), rfl, wp_seq (wp_skip ?_)⟩
    exact parse_end s w h1 hd (fun g => absurd g (by omega)) _ a w' (by rw [if_neg (by omega)]; exact hJ) (fun a w' hr => hQ a w' hr)
  · refine ⟨.seq .skip (afterL 3), rfl, wp_seq (wp_skip ?_)⟩
    refine parse_behind s w h1 hd he h46 k hk1 h0 hk2 _ a w' hJ (fun a w' hr => hQ a w' hr) ?_
    intro a' w'' h5 hJ'
    have hk' := parseM_of hJ'
    have : pEnd s + 1 + pScale s ≤ s.size := by
      have := nd_le s (pEnd s + 1)
      have hps : pScale s = ndig s (pEnd s + 1) := if_pos he
      omega
    exact ⟨⟨h1, hd, _, _, hJ', .inr (.inr (.inr ⟨rfl, by omega, rfl, he, h46, h0, h5⟩))⟩, by unfold ParseM; rw [hk, hk']; simp; omega⟩

theorem prefix_minus (s : ByteArray) : Lib.hasPrefix s.data.toList [45] = decide (pFrom s = 1) := by
  have hh : bt s 0 = 45 ↔ Lib.hasPrefix s.data.toList [45] = true := by
    unfold Lib.hasPrefix
    cases e : s.data.toList with
    | nil =>
      have : s.size = 0 := by rw [Lib.size_eq, e]; rfl
      unfold bt
      rw [dif_neg (by omega)]
      simp
    | cons b l =>
      have h0 : 0 < s.size := by rw [Lib.size_eq, e]; simp
      rw [← get_bt s 0 h0]
      have e2 : s[0] = b := by
        have : s[0] = s.data.toList[0]'(by rw [e]; simp) := rfl
        rw [this]
        simp [e]
      rw [e2]
      constructor
      · intro h
        rw [show b = 45 from u8_eq h]
        rfl
      · intro h
        have : (45 : UInt8) = b := by simpa using h
        rw [← this]
        rfl
  unfold pFrom
  by_cases h : bt s 0 = 45
  · rw [if_pos h, hh.1 h]; rfl
  · rw [if_neg h]
    cases e : Lib.hasPrefix s.data.toList [45] with
    | true => exact absurd (hh.2 e) h
    | false => rfl

set_option maxRecDepth 100000 in
set_option maxHeartbeats 1000000 in
theorem parse_first' (s : ByteArray) (w : World) (hs : s.size ≤ 1000000000000000) :
    ∃ r c, Tryd.f13.body = some (.seq r (.scope c)) ∧ ∀ (Q : Exit → Act → World → Prop) (t : Array Value) (_ : t.size = 122) (_ : t.getD 0 undef = .string s) (_ : t.getD 2 undef = .pointer (some ⟨w.heap.size, 0, none⟩)) (_ : t.getD 3 undef = .pointer (some ⟨w.heap.size + 1, 0, none⟩))
    (_ : ∀ a w', bodyPost Tryd.prog Tryd.f13 (fun e w' => e = .returned (parseV (parseP s)) ∧ Below w.heap.size w w') .ret a w' → Q .ret a w')
    (_ : ∀ l a w', ParseL s w l a w' → Q (.goto l) a w'), c.wp Tryd.prog Q { tmps := t, defers := [] } (PW w) := by
  refine ⟨_, _, rfl, ?_⟩
  intro Q t hsz g0 g2 g3 hQ hG
  have HQ := Lib.hid hQ; clear hQ
  have HG := Lib.hid hG; clear hG
  obtain ⟨f, hf, rfl⟩ := lit122 t hsz
  rw [hf] at g0 g2 g3
  rw [g0, g2, g3]
  clear hf hsz g0 g2 g3
  by_cases h8 : 802 < s.size
  · have HR := Lib.hid (show parseP s = (false, ⟨#[]⟩, 0, 3, 0) from if_pos h8)
    go_wp2_with fail
    refine HQ.out _ _ (bodyPost_ret (v := parseV (false, ⟨#[]⟩, 0, 3, 0)) (by simp [results, Tryd.results13, go_sem]) rfl ⟨ret_val (by rw [HR.out]), ?_⟩)
    exact (((Below.refl w.heap.size w).alloc (Nat.le_refl _) _).alloc (by simp) _)
  have hpre := fun W => Tryd.strings_HasPrefix s ⟨#[45]⟩ W
  simp only [prefix_minus s] at hpre
  have hdig := fun W => isDigit_any s (pFrom s) W
  have hp01 : pFrom s = 0 ∨ pFrom s = 1 := by unfold pFrom; split <;> simp
  have hb := get_bt s
  rcases hp01 with hp | hp
  · rw [hp] at hdig
    rw [show decide (pFrom s = 1) = false by rw [hp]; rfl] at hpre
    cases hd : isDig s 0 with
    | false =>
      rw [hd] at hdig
      have HR := Lib.hid (show parseP s = badP 0 by
        unfold parseP
        rw [if_neg h8, hp, if_pos (show digAt s 0 = false from hd)])
      clear hd hp
      go_wp2_with fail
      refine (hpre _).mono ?_
      rintro e w' ⟨rfl, rfl⟩
      clear hpre
      go_wp2_with fail
      refine (hdig _).mono ?_
      rintro e w' ⟨rfl, rfl⟩
      clear hdig
      go_wp2_with fail
      refine (wrong_any 0 _).mono ?_
      rintro e w2 ⟨rfl, hB2⟩
      obtain ⟨z0, z1, c0, c1, c2, c3, c4, f0, f1, f2, f3, f4, hBw⟩ := held2 hB2
      clear hB2
      go_wp2_with fail
      refine HQ.out _ _ (bodyPost_ret (v := parseV (badP 0)) (by simp [badP, results, Tryd.results13, go_sem, c0, c1, c2, c3, c4]) rfl ⟨ret_val (by rw [HR.out]), ?_⟩)
      exact below5' hBw rfl
    | true =>
      rw [hd] at hdig
      have hd' : digAt s (pFrom s) = true := by rw [hp]; exact hd
      have hks : 0 < s.size := (digAt_iff.1 hd).1
      have HD := Lib.hid hd'; clear hd' hd
      have HP := Lib.hid hp; clear hp
      by_cases h48 : bt s 0 = 48
      · have hx : (bt s 0 == 48) = true := by simpa using h48
        have HE := Lib.hid (show pEnd s = 1 by unfold pEnd; rw [HP.out, if_pos h48])
        clear h48
        go_wp2_with fail
        refine (hpre _).mono ?_
        rintro e w' ⟨rfl, rfl⟩
        clear hpre
        go_wp2_with fail
        refine (hdig _).mono ?_
        rintro e w' ⟨rfl, rfl⟩
        clear hdig
        go_wp2_with fail
        refine wp_goto (HG.out 0 _ _ ⟨by omega, HD.out, 1, -1, ⟨rfl, rfl, rfl, rfl, rfl, rfl, rfl, rfl, ?_, rfl⟩, .inl ⟨rfl, HE.out.symm, rfl⟩⟩)
        rw [HP.out]
        rfl
      · have hx : (bt s 0 == 48) = false := by simpa using h48
        have hn : bt s (pFrom s) ≠ 48 := by rw [HP.out]; exact h48
        have hpe := (pEnd_facts HD.out).1
        rw [HP.out] at hpe
        have hwh := parse_whole s w (by omega) HD.out hn 1 (by rw [HP.out]; omega) (by omega)
        have HW := Lib.hid hwh; clear hwh
        have HN := Lib.hid hn; clear hn
        have HPE := Lib.hid hpe; clear hpe
        clear h48
        go_wp2_with fail
        refine (hpre _).mono ?_
        rintro e w' ⟨rfl, rfl⟩
        clear hpre
        go_wp2_with fail
        refine (hdig _).mono ?_
        rintro e w' ⟨rfl, rfl⟩
        clear hdig
        go_wp2_with fail
        refine wp_label ?_
        rename_i K1 hK1
        refine hK1 _ _ (HW.out _ _ _ ?_ ?_ ?_)
        · exact ⟨rfl, rfl, rfl, rfl, rfl, rfl, rfl, rfl, by rw [HP.out]; rfl, rfl⟩
        · exact HQ.out
        · intro l k' p a w' hJ h
          refine HG.out l a w' ⟨by omega, HD.out, k', p, hJ, ?_⟩
          rcases h with ⟨h1, h2, h3, h4⟩ | h | ⟨h1, h2, h3⟩
          · exact .inr (.inl ⟨h1, HN.out, by rw [HP.out]; omega, h2, h3⟩)
          · exact .inr (.inr (.inl h))
          · exact .inr (.inr (.inr ⟨h1, by omega, h3⟩))
  · rw [hp] at hdig
    rw [show decide (pFrom s = 1) = true by rw [hp]; rfl] at hpre
    cases hd : isDig s 1 with
    | false =>
      rw [hd] at hdig
      have HR := Lib.hid (show parseP s = badP 1 by
        unfold parseP
        rw [if_neg h8, hp, if_pos (show digAt s 1 = false from hd)])
      clear hd hp
      go_wp2_with fail
      refine (hpre _).mono ?_
      rintro e w' ⟨rfl, rfl⟩
      clear hpre
      go_wp2_with fail
      refine (hdig _).mono ?_
      rintro e w' ⟨rfl, rfl⟩
      clear hdig
      go_wp2_with fail
      refine (wrong_any 1 _).mono ?_
      rintro e w2 ⟨rfl, hB2⟩
      obtain ⟨z0, z1, c0, c1, c2, c3, c4, f0, f1, f2, f3, f4, hBw⟩ := held2 hB2
      clear hB2
      go_wp2_with fail
      refine HQ.out _ _ (bodyPost_ret (v := parseV (badP 1)) (by simp [badP, results, Tryd.results13, go_sem, c0, c1, c2, c3, c4]) rfl ⟨ret_val (by rw [HR.out]), ?_⟩)
      exact below5' hBw rfl
    | true =>
      rw [hd] at hdig
      have hd' : digAt s (pFrom s) = true := by rw [hp]; exact hd
      have hks : 1 < s.size := (digAt_iff.1 hd).1
      have HD := Lib.hid hd'; clear hd' hd
      have HP := Lib.hid hp; clear hp
      by_cases h48 : bt s 1 = 48
      · have hx : (bt s 1 == 48) = true := by simpa using h48
        have HE := Lib.hid (show pEnd s = 2 by unfold pEnd; rw [HP.out, if_pos h48])
        clear h48
        go_wp2_with fail
        refine (hpre _).mono ?_
        rintro e w' ⟨rfl, rfl⟩
        clear hpre
        go_wp2_with fail
        refine (hdig _).mono ?_
        rintro e w' ⟨rfl, rfl⟩
        clear hdig
        go_wp2_with fail
        refine wp_goto (HG.out 0 _ _ ⟨by omega, HD.out, 2, -1, ⟨rfl, rfl, rfl, rfl, rfl, rfl, rfl, rfl, ?_, rfl⟩, .inl ⟨rfl, HE.out.symm, rfl⟩⟩)
        rw [HP.out]
        rfl
      · have hx : (bt s 1 == 48) = false := by simpa using h48
        have hn : bt s (pFrom s) ≠ 48 := by rw [HP.out]; exact h48
        have hpe := (pEnd_facts HD.out).1
        rw [HP.out] at hpe
        have hwh := parse_whole s w (by omega) HD.out hn 2 (by rw [HP.out]; omega) (by omega)
        have HW := Lib.hid hwh; clear hwh
        have HN := Lib.hid hn; clear hn
        have HPE := Lib.hid hpe; clear hpe
        clear h48
        go_wp2_with fail
        refine (hpre _).mono ?_
        rintro e w' ⟨rfl, rfl⟩
        clear hpre
        go_wp2_with fail
        refine (hdig _).mono ?_
        rintro e w' ⟨rfl, rfl⟩
        clear hdig
        go_wp2_with fail
        refine wp_label ?_
        rename_i K1 hK1
        refine hK1 _ _ (HW.out _ _ _ ?_ ?_ ?_)
        · exact ⟨rfl, rfl, rfl, rfl, rfl, rfl, rfl, rfl, by rw [HP.out]; rfl, rfl⟩
        · exact HQ.out
        · intro l k' p a w' hJ h
          refine HG.out l a w' ⟨by omega, HD.out, k', p, hJ, ?_⟩
          rcases h with ⟨h1, h2, h3, h4⟩ | h | ⟨h1, h2, h3⟩
          · exact .inr (.inl ⟨h1, HN.out, by rw [HP.out]; omega, h2, h3⟩)
          · exact .inr (.inr (.inl h))
          · exact .inr (.inr (.inr ⟨h1, by omega, h3⟩))
theorem parse_first (s : ByteArray) (w : World) (hs : s.size ≤ 1000000000000000) (Q : Exit → Act → World → Prop) (t : Array Value) (hsz : t.size = 122) (g0 : t.getD 0 undef = .string s) (g2 : t.getD 2 undef = .pointer (some ⟨w.heap.size, 0, none⟩)) (g3 : t.getD 3 undef = .pointer (some ⟨w.heap.size + 1, 0, none⟩))
    (hQ : ∀ a w', bodyPost Tryd.prog Tryd.f13 (fun e w' => e = .returned (parseV (parseP s)) ∧ Below w.heap.size w w') .ret a w' → Q .ret a w')
    (hG : ∀ l a w', ParseL s w l a w' → Q (.goto l) a w') : parseCode.wp Tryd.prog Q { tmps := t, defers := [] } (PW w) := by
  obtain ⟨r, c, hc, hw⟩ := parse_first' s w hs
  unfold parseCode
  rw [hc]
  exact hw Q t hsz g0 g2 g3 hQ hG

set_option maxRecDepth 100000 in
set_option maxHeartbeats 1000000 in
theorem parse_any (s : ByteArray) (w : World) (hs : s.size ≤ 1000000000000000) :
    Calls Tryd.prog 13 #[.string s] w fun e w' => e = .returned (parseV (parseP s)) ∧ Below w.heap.size w w' := by
  have hscope : ∀ (Q : Exit → Act → World → Prop) (t : Array Value), t.size = 122 → t.getD 0 undef = .string s → t.getD 2 undef = .pointer (some ⟨w.heap.size, 0, none⟩) → t.getD 3 undef = .pointer (some ⟨w.heap.size + 1, 0, none⟩) →
      (∀ a w', bodyPost Tryd.prog Tryd.f13 (fun e w' => e = .returned (parseV (parseP s)) ∧ Below w.heap.size w w') .ret a w' → Q .ret a w') → (Code.scope parseCode).wp Tryd.prog Q { tmps := t, defers := [] } (PW w) := fun Q t h1 h2 h3 h4 hQ =>
    wp_scope_many (ParseL s w) ParseM (parse_first s w hs _ t h1 h2 h3 h4 (fun a w' h => hQ a w' h) (fun l a w' h => h)) (fun l a w' h => parse_pass s w Q hQ l a w' h)
  have HS := Lib.hid hscope; clear hscope
  go_enter Tryd.func13, Tryd.ntmps13
  generalize hQ : bodyPost Tryd.prog Tryd.f13 (fun e w' => e = .returned (parseV (parseP s)) ∧ Below w.heap.size w w') = Q0
  have hQr : ∀ a w', bodyPost Tryd.prog Tryd.f13 (fun e w' => e = .returned (parseV (parseP s)) ∧ Below w.heap.size w w') .ret a w' → Q0 .ret a w' := by rw [← hQ]; exact fun _ _ h => h
  have HQ := Lib.hid hQr; clear hQr hQ
  have hk : ∀ t : Array Value, t.size = 122 → t.getD 0 undef = .string s → t.getD 2 undef = .pointer (some ⟨w.heap.size, 0, none⟩) → t.getD 3 undef = .pointer (some ⟨w.heap.size + 1, 0, none⟩) → (Code.scope parseCode).wp Tryd.prog Q0 { tmps := t, defers := [] } (PW w) := fun t h1 h2 h3 h4 => HS.out Q0 t h1 h2 h3 h4 HQ.out
  have HK := Lib.hid hk; clear hk
  refine wp_seq_k fun K1 hK1 => ?_
  have HK1 := Lib.hid hK1; clear hK1
  go_wp2_with fail
  exact HK1.out _ _ (HK.out _ rfl rfl rfl rfl)
end Go.Proofs.YtgccppilhbannaaDoor
