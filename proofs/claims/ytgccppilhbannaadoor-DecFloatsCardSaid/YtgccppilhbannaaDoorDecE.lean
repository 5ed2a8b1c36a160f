/-
  The walk of dec.Parse, label by label.
-/
import Derived.Test.YtgccppilhbannaaDoorDecQ
namespace Go.Proofs.YtgccppilhbannaaDoor
open Go.RowKit Go.PlainAid

/-- Parse's two results in memory. -/
abbrev PW (w : World) : World := (w.alloc (.cells #[.bool false, .string ⟨#[]⟩, .int .i64 0] 23)).alloc (.cells #[.int .i64 0, .int .i64 0] 27)
theorem held2 {w w' : World} (hB : Below (PW w).heap.size (PW w) w') :
    w.heap.size < w'.heap.size ∧ w.heap.size + 1 < w'.heap.size ∧ w'.cell? ⟨w.heap.size, 0, none⟩ = some (.bool false) ∧ w'.cell? ⟨w.heap.size, 1, none⟩ = some (.string ⟨#[]⟩) ∧ w'.cell? ⟨w.heap.size, 2, none⟩ = some (.int .i64 0) ∧
      w'.cell? ⟨w.heap.size + 1, 0, none⟩ = some (.int .i64 0) ∧ w'.cell? ⟨w.heap.size + 1, 1, none⟩ = some (.int .i64 0) ∧ w'.frozen? ⟨w.heap.size, 0, none⟩ = false ∧ w'.frozen? ⟨w.heap.size, 1, none⟩ = false ∧ w'.frozen? ⟨w.heap.size, 2, none⟩ = false ∧
      w'.frozen? ⟨w.heap.size + 1, 0, none⟩ = false ∧ w'.frozen? ⟨w.heap.size + 1, 1, none⟩ = false ∧ Below w.heap.size w w' := by
  have hz := hB.size
  simp at hz
  refine ⟨by omega, by omega, (hB.cell (p := ⟨w.heap.size, 0, none⟩) (by simp; omega)).trans (by go_simp), (hB.cell (p := ⟨w.heap.size, 1, none⟩) (by simp; omega)).trans (by go_simp), (hB.cell (p := ⟨w.heap.size, 2, none⟩) (by simp; omega)).trans (by go_simp),
    (hB.cell (p := ⟨w.heap.size + 1, 0, none⟩) (by simp)).trans (by go_simp), (hB.cell (p := ⟨w.heap.size + 1, 1, none⟩) (by simp)).trans (by go_simp),
    (hB.frozen (p := ⟨w.heap.size, 0, none⟩) (by simp; omega)).trans (by go_simp), (hB.frozen (p := ⟨w.heap.size, 1, none⟩) (by simp; omega)).trans (by go_simp), (hB.frozen (p := ⟨w.heap.size, 2, none⟩) (by simp; omega)).trans (by go_simp),
    (hB.frozen (p := ⟨w.heap.size + 1, 0, none⟩) (by simp)).trans (by go_simp), (hB.frozen (p := ⟨w.heap.size + 1, 1, none⟩) (by simp)).trans (by go_simp),
    (((Below.refl w.heap.size w).alloc (Nat.le_refl _) _).alloc (by simp) _).trans (hB.mono (by simp; omega))⟩

theorem below5 {n : Nat} {w w' : World} {b : Bool} {t : ByteArray} {a c d : Int} {o : Obj} (hB : Below w.heap.size w w') (hn : n = w.heap.size) :
    Below n w ((((((w'.setCell ⟨w.heap.size, 0, none⟩ (.bool b)).setCell ⟨w.heap.size, 1, none⟩ (.string t)).setCell ⟨w.heap.size, 2, none⟩ (.int .i64 a)).setCell ⟨w.heap.size + 1, 0, none⟩ (.int .i64 c)).setCell ⟨w.heap.size + 1, 1, none⟩ (.int .i64 d)).alloc o) := by
  subst hn
  have hz := hB.size
  exact (((((hB.setCell (p := ⟨w.heap.size, 0, none⟩) (Nat.le_refl _) _).setCell (p := ⟨w.heap.size, 1, none⟩) (Nat.le_refl _) _).setCell (p := ⟨w.heap.size, 2, none⟩) (Nat.le_refl _) _).setCell (p := ⟨w.heap.size + 1, 0, none⟩) (Nat.le_succ _) _).setCell (p := ⟨w.heap.size + 1, 1, none⟩) (Nat.le_succ _) _).alloc (by simpa using hz) _
theorem below5' {n : Nat} {w w' : World} {b : Bool} {t : ByteArray} {a c d : Int} (hB : Below w.heap.size w w') (hn : n = w.heap.size) :
    Below n w (((((w'.setCell ⟨w.heap.size, 0, none⟩ (.bool b)).setCell ⟨w.heap.size, 1, none⟩ (.string t)).setCell ⟨w.heap.size, 2, none⟩ (.int .i64 a)).setCell ⟨w.heap.size + 1, 0, none⟩ (.int .i64 c)).setCell ⟨w.heap.size + 1, 1, none⟩ (.int .i64 d)) := by
  subst hn
  exact ((((hB.setCell (p := ⟨w.heap.size, 0, none⟩) (Nat.le_refl _) _).setCell (p := ⟨w.heap.size, 1, none⟩) (Nat.le_refl _) _).setCell (p := ⟨w.heap.size, 2, none⟩) (Nat.le_refl _) _).setCell (p := ⟨w.heap.size + 1, 0, none⟩) (Nat.le_succ _) _).setCell (p := ⟨w.heap.size + 1, 1, none⟩) (Nat.le_succ _) _
theorem held3 {w w' w2 : World} (z1 : w.heap.size + 1 < w'.heap.size) (c0 : w'.cell? ⟨w.heap.size, 0, none⟩ = some (.bool false)) (c1 : w'.cell? ⟨w.heap.size, 1, none⟩ = some (.string ⟨#[]⟩)) (c2 : w'.cell? ⟨w.heap.size, 2, none⟩ = some (.int .i64 0))
    (c3 : w'.cell? ⟨w.heap.size + 1, 0, none⟩ = some (.int .i64 0)) (c4 : w'.cell? ⟨w.heap.size + 1, 1, none⟩ = some (.int .i64 0)) (f0 : w'.frozen? ⟨w.heap.size, 0, none⟩ = false) (f1 : w'.frozen? ⟨w.heap.size, 1, none⟩ = false) (f2 : w'.frozen? ⟨w.heap.size, 2, none⟩ = false)
    (f3 : w'.frozen? ⟨w.heap.size + 1, 0, none⟩ = false) (f4 : w'.frozen? ⟨w.heap.size + 1, 1, none⟩ = false) (hBw : Below w.heap.size w w') (hB : Below w'.heap.size w' w2) :
    w.heap.size < w2.heap.size ∧ w.heap.size + 1 < w2.heap.size ∧ w2.cell? ⟨w.heap.size, 0, none⟩ = some (.bool false) ∧ w2.cell? ⟨w.heap.size, 1, none⟩ = some (.string ⟨#[]⟩) ∧ w2.cell? ⟨w.heap.size, 2, none⟩ = some (.int .i64 0) ∧
      w2.cell? ⟨w.heap.size + 1, 0, none⟩ = some (.int .i64 0) ∧ w2.cell? ⟨w.heap.size + 1, 1, none⟩ = some (.int .i64 0) ∧ w2.frozen? ⟨w.heap.size, 0, none⟩ = false ∧ w2.frozen? ⟨w.heap.size, 1, none⟩ = false ∧ w2.frozen? ⟨w.heap.size, 2, none⟩ = false ∧
      w2.frozen? ⟨w.heap.size + 1, 0, none⟩ = false ∧ w2.frozen? ⟨w.heap.size + 1, 1, none⟩ = false ∧ Below w.heap.size w w2 := by
  have hz := hB.size
  refine ⟨by omega, by omega, (hB.cell (p := ⟨w.heap.size, 0, none⟩) (by simp; omega)).trans c0, (hB.cell (p := ⟨w.heap.size, 1, none⟩) (by simp; omega)).trans c1, (hB.cell (p := ⟨w.heap.size, 2, none⟩) (by simp; omega)).trans c2,
    (hB.cell (p := ⟨w.heap.size + 1, 0, none⟩) z1).trans c3, (hB.cell (p := ⟨w.heap.size + 1, 1, none⟩) z1).trans c4,
    (hB.frozen (p := ⟨w.heap.size, 0, none⟩) (by simp; omega)).trans f0, (hB.frozen (p := ⟨w.heap.size, 1, none⟩) (by simp; omega)).trans f1, (hB.frozen (p := ⟨w.heap.size, 2, none⟩) (by simp; omega)).trans f2,
    (hB.frozen (p := ⟨w.heap.size + 1, 0, none⟩) z1).trans f3, (hB.frozen (p := ⟨w.heap.size + 1, 1, none⟩) z1).trans f4,
    hBw.trans (hB.mono (by omega))⟩
theorem below_or {W w' : World} (h : w' = W ∨ w' = W.drew) : Below W.heap.size W w' := by
  rcases h with rfl | rfl
  · exact Below.refl _ _
  · exact (Below.refl _ _).drew

set_option maxRecDepth 100000 in
set_option maxHeartbeats 1000000 in
theorem parse_end' (s : ByteArray) (w : World) (h1 : s.size ≤ 802) (hd : digAt s (pFrom s) = true) (h2 : pEnd s < s.size → bt s (pEnd s) = 46 ∧ 0 < pScale s ∧ pEnd s + 1 + pScale s = s.size) :
    ∃ c, findLabel parseCode 2 = some (.seq .skip c) ∧ ∀ (Q : Exit → Act → World → Prop) (a : Act) (w' : World), ParseJ s w s.size (if pEnd s < s.size then (pEnd s : Int) else -1) a w' →
    (∀ a w', bodyPost Tryd.prog Tryd.f13 (fun e w' => e = .returned (parseV (parseP s)) ∧ Below w.heap.size w w') .ret a w' → Q .ret a w') → c.wp Tryd.prog Q a w' := by
  refine ⟨_, rfl, ?_⟩
  rintro Q ⟨t, df⟩ w' ⟨rfl, hsz, g0, g2, g3, g4, g5, g6, g7, rfl⟩ hQ
  have HQ := Lib.hid hQ; clear hQ
  obtain ⟨f, hf, rfl⟩ := lit122 t hsz
  rw [hf] at g0 g2 g3 g4 g5 g6 g7
  rw [g0, g2, g3, g4, g5, g6, g7]
  clear hf hsz g0 g2 g3 g4 g5 g6 g7
  have hT := pText_dig hd (fun e => (h2 e).2.2)
  have hm := fun sc W => made_any (pFrom s == 1) (pText s) sc W hT
  have htrim := fun W => Tryd.strings_Trim_one (pText s) 48 (by decide) W
  have hemp := trimB_empty hT
  obtain ⟨hp1, hp2, _⟩ := pEnd_facts hd
  have hp01 : pFrom s = 0 ∨ pFrom s = 1 := by unfold pFrom; split <;> simp
  have HR := Lib.hid (show parseP s = if pFrom s = 1 ∧ dval (pText s) = 0 then badP 0 else ((madeR (pFrom s == 1) (dval (pText s)) (pScale s)).1, (madeR (pFrom s == 1) (dval (pText s)) (pScale s)).2.1, (madeR (pFrom s == 1) (dval (pText s)) (pScale s)).2.2.1, (madeR (pFrom s == 1) (dval (pText s)) (pScale s)).2.2.2, 0) by
    unfold parseP
    rw [if_neg (by omega), if_neg (by rw [hd]; simp), if_neg (fun g => g.2 (h2 g.1).1), if_neg (fun g => by have := h2 g.1; omega)])
  clear hd hT
  by_cases he : pEnd s < s.size
  · have hx : pText s = s.extract (pFrom s) (pEnd s) ++ s.extract (pEnd s + 1) s.size := if_pos he
    have hsc : ((pScale s : Nat) : Int) = (s.size : Int) - (pEnd s : Int) - 1 := by have := h2 he; omega
    rw [if_pos he]
    rw [hsc] at HR
    rw [hx] at hm htrim hemp HR
    have hbig : (s.extract (pFrom s) (pEnd s) ++ s.extract (pEnd s + 1) s.size).size ≤ 802 := by rw [ByteArray.size_append]; simp; omega
    clear hx hsc h2
    generalize pEnd s = e at *
    rcases hp01 with hp | hp
    · rw [hp] at hm htrim hemp HR hbig hp1 ⊢
      rw [if_neg (fun g => by simp at g)] at HR
      go_wp2_with fail
      go_quiet (fail)
      have hWN : Below (PW w).heap.size (PW w) ((PW w).drewN nq) := below_drewN (Below.refl _ _) nq
      obtain ⟨z0, z1, c0, c1, c2, c3, c4, f0, f1, f2, f3, f4, hBw⟩ := held2 hWN
      clear hWN
      generalize (PW w).drewN nq = w' at *
      generalize s.extract 0 e ++ s.extract (e + 1) s.size = T at *
      generalize (s.size : Int) - (e : Int) - 1 = sc at *
      have hm' := fun W => hm sc W
      have ht' := fun W => htrim W (by omega)
      clear hm htrim
      generalize (⟨(Lib.trimB T.data.toList 48).toArray⟩ : ByteArray) = u at hemp ht'
      generalize hr : madeR (0 == 1) (dval T) sc = r at *
      clear hr
      change ∀ W, Calls _ _ #[.bool false, .string T, .int .i64 sc] W _ at hm'
      clear hemp ht'
      go_wp2_with fail
      refine (hm' _).mono ?_
      rintro e w2 ⟨rfl, hB2⟩
      obtain ⟨z0', z1', c0', c1', c2', c3', c4', f0', f1', f2', f3', f4', hBw'⟩ := held3 z1 c0 c1 c2 c3 c4 f0 f1 f2 f3 f4 hBw hB2
      clear hB2 z0 z1 c0 c1 c2 c3 c4 f0 f1 f2 f3 f4 hBw hm'
      go_wp2_with fail
      refine HQ.out _ _ (bodyPost_ret (v := parseV (r.1, r.2.1, r.2.2.1, r.2.2.2, 0)) (by simp [results, Tryd.results13, go_sem, z0', z1', c0', c1', c2', c3', c4']) rfl ⟨ret_val (by rw [HR.out]), ?_⟩)
      exact below5 hBw' rfl
    · rw [hp] at hm htrim hemp HR hbig hp1 ⊢
      go_wp2_with fail
      go_quiet (fail)
      have hWN : Below (PW w).heap.size (PW w) ((PW w).drewN nq) := below_drewN (Below.refl _ _) nq
      obtain ⟨z0, z1, c0, c1, c2, c3, c4, f0, f1, f2, f3, f4, hBw⟩ := held2 hWN
      clear hWN
      generalize (PW w).drewN nq = w' at *
      generalize s.extract 1 e ++ s.extract (e + 1) s.size = T at *
      generalize (s.size : Int) - (e : Int) - 1 = sc at *
      have hm' := fun W => hm sc W
      have ht' := fun W => htrim W (by omega)
      clear hm htrim
      generalize (⟨(Lib.trimB T.data.toList 48).toArray⟩ : ByteArray) = u at hemp ht'
      generalize hr : madeR (1 == 1) (dval T) sc = r at *
      clear hr
      change ∀ W, Calls _ _ #[.bool true, .string T, .int .i64 sc] W _ at hm'
      by_cases h0 : dval T = 0
      · rw [if_pos ⟨(by trivial), h0⟩] at HR
        rw [decide_eq_true h0] at hemp
        clear h0 hm'
        go_wp2_with fail
        refine (ht' _).mono ?_
        rintro e w2 ⟨rfl, hB2⟩
        obtain ⟨z0', z1', c0', c1', c2', c3', c4', f0', f1', f2', f3', f4', hBw'⟩ := held3 z1 c0 c1 c2 c3 c4 f0 f1 f2 f3 f4 hBw (below_or hB2)
        clear hB2 z0 z1 c0 c1 c2 c3 c4 f0 f1 f2 f3 f4 hBw ht'
        go_wp2_with fail
        refine (wrong_any 0 _).mono ?_
        rintro e w3 ⟨rfl, hB3⟩
        obtain ⟨z0, z1, c0, c1, c2, c3, c4, f0, f1, f2, f3, f4, hBw⟩ := held3 z1' c0' c1' c2' c3' c4' f0' f1' f2' f3' f4' hBw' hB3
        clear hB3 z0' z1' c0' c1' c2' c3' c4' f0' f1' f2' f3' f4' hBw'
        go_wp2_with fail
        refine HQ.out _ _ (bodyPost_ret (v := parseV (badP 0)) (by simp [badP, results, Tryd.results13, go_sem, c0, c1, c2, c3, c4]) rfl ⟨ret_val (by rw [HR.out]), ?_⟩)
        exact below5' hBw rfl
      · rw [if_neg (fun g => h0 g.2)] at HR
        rw [decide_eq_false h0] at hemp
        clear h0
        go_wp2_with fail
        refine (ht' _).mono ?_
        rintro e w2 ⟨rfl, hB2⟩
        obtain ⟨z0', z1', c0', c1', c2', c3', c4', f0', f1', f2', f3', f4', hBw'⟩ := held3 z1 c0 c1 c2 c3 c4 f0 f1 f2 f3 f4 hBw (below_or hB2)
        clear hB2 z0 z1 c0 c1 c2 c3 c4 f0 f1 f2 f3 f4 hBw ht'
        go_wp2_with fail
        refine (hm' _).mono ?_
        rintro e w3 ⟨rfl, hB3⟩
        obtain ⟨z0, z1, c0, c1, c2, c3, c4, f0, f1, f2, f3, f4, hBw⟩ := held3 z1' c0' c1' c2' c3' c4' f0' f1' f2' f3' f4' hBw' hB3
        clear hB3 z0' z1' c0' c1' c2' c3' c4' f0' f1' f2' f3' f4' hBw' hm'
        go_wp2_with fail
        refine HQ.out _ _ (bodyPost_ret (v := parseV (r.1, r.2.1, r.2.2.1, r.2.2.2, 0)) (by simp [results, Tryd.results13, go_sem, z0, z1, c0, c1, c2, c3, c4]) rfl ⟨ret_val (by rw [HR.out]), ?_⟩)
        exact below5 hBw rfl
  · have hx : pText s = s.extract (pFrom s) s.size := if_neg he
    have hsc : pScale s = 0 := if_neg he
    rw [if_neg he]
    rw [hsc] at HR
    rw [hx] at hm htrim hemp HR
    clear hx hsc he h2
    generalize pFrom s = p at *
    generalize hr : madeR (p == 1) (dval (s.extract p s.size)) ((0 : Nat) : Int) = r at *
    rcases hp01 with rfl | rfl
    · have e0 : s.extract 0 s.size = s := by simp
      rw [e0] at hm htrim hemp HR hr
      rw [if_neg (fun g => by simp at g)] at HR
      have hm' := fun W => hm 0 W
      have hr' : madeR false (dval s) 0 = r := hr
      change ∀ W, Calls _ _ #[.bool false, .string s, .int .i64 0] W fun e w' => e = .returned (decE (madeR false (dval s) 0)) ∧ _ at hm'
      rw [hr'] at hm'
      clear hm htrim hemp hr hr' e0
      go_wp2_with fail
      refine (hm' _).mono ?_
      rintro e w' ⟨rfl, hB⟩
      obtain ⟨z0, z1, c0, c1, c2, c3, c4, f0, f1, f2, f3, f4, hBw⟩ := held2 hB
      clear hB hm'
      go_wp2_with fail
      refine HQ.out _ _ (bodyPost_ret (v := parseV (r.1, r.2.1, r.2.2.1, r.2.2.2, 0)) (by simp [results, Tryd.results13, go_sem, z0, z1, c0, c1, c2, c3, c4]) rfl ⟨ret_val (by rw [HR.out]), ?_⟩)
      exact below5 hBw rfl
    · rw [show ((1 : Nat) == 1) = true from rfl] at hm hr
      have hm' := fun W => hm 0 W
      have hr' : madeR true (dval (s.extract 1 s.size)) 0 = r := hr
      rw [hr'] at hm'
      have ht' := fun W => htrim W (by simp; omega)
      clear hm htrim hr hr'
      generalize (⟨(Lib.trimB (s.extract 1 s.size).data.toList 48).toArray⟩ : ByteArray) = u at hemp ht'
      by_cases h0 : dval (s.extract 1 s.size) = 0
      · rw [if_pos ⟨rfl, h0⟩] at HR
        rw [decide_eq_true h0] at hemp
        clear h0 hm'
        go_wp2_with fail
        refine (ht' _).mono ?_
        rintro e w' ⟨rfl, hW⟩
        obtain ⟨z0, z1, c0, c1, c2, c3, c4, f0, f1, f2, f3, f4, hBw⟩ := held2 (below_or hW)
        clear hW ht'
        go_wp2_with fail
        refine (wrong_any 0 _).mono ?_
        rintro e w2 ⟨rfl, hB2⟩
        obtain ⟨z0', z1', c0', c1', c2', c3', c4', f0', f1', f2', f3', f4', hBw'⟩ := held3 z1 c0 c1 c2 c3 c4 f0 f1 f2 f3 f4 hBw hB2
        clear hB2 z0 z1 c0 c1 c2 c3 c4 f0 f1 f2 f3 f4 hBw
        go_wp2_with fail
        refine HQ.out _ _ (bodyPost_ret (v := parseV (badP 0)) (by simp [badP, results, Tryd.results13, go_sem, c0', c1', c2', c3', c4']) rfl ⟨ret_val (by rw [HR.out]), ?_⟩)
        exact below5' hBw' rfl
      · rw [if_neg (fun g => h0 g.2)] at HR
        rw [decide_eq_false h0] at hemp
        clear h0
        go_wp2_with fail
        refine (ht' _).mono ?_
        rintro e w' ⟨rfl, hW⟩
        obtain ⟨z0, z1, c0, c1, c2, c3, c4, f0, f1, f2, f3, f4, hBw⟩ := held2 (below_or hW)
        clear hW ht'
        go_wp2_with fail
        refine (hm' _).mono ?_
        rintro e w2 ⟨rfl, hB2⟩
        obtain ⟨z0', z1', c0', c1', c2', c3', c4', f0', f1', f2', f3', f4', hBw'⟩ := held3 z1 c0 c1 c2 c3 c4 f0 f1 f2 f3 f4 hBw hB2
        clear hB2 z0 z1 c0 c1 c2 c3 c4 f0 f1 f2 f3 f4 hBw hm'
        go_wp2_with fail
        refine HQ.out _ _ (bodyPost_ret (v := parseV (r.1, r.2.1, r.2.2.1, r.2.2.2, 0)) (by simp [results, Tryd.results13, go_sem, z0', z1', c0', c1', c2', c3', c4']) rfl ⟨ret_val (by rw [HR.out]), ?_⟩)
        exact below5 hBw' rfl
theorem parse_end (s : ByteArray) (w : World) (h1 : s.size ≤ 802) (hd : digAt s (pFrom s) = true) (h2 : pEnd s < s.size → bt s (pEnd s) = 46 ∧ 0 < pScale s ∧ pEnd s + 1 + pScale s = s.size)
    (Q : Exit → Act → World → Prop) (a : Act) (w' : World) (hJ : ParseJ s w s.size (if pEnd s < s.size then (pEnd s : Int) else -1) a w')
    (hQ : ∀ a w', bodyPost Tryd.prog Tryd.f13 (fun e w' => e = .returned (parseV (parseP s)) ∧ Below w.heap.size w w') .ret a w' → Q .ret a w') : (afterL 2).wp Tryd.prog Q a w' := by
  obtain ⟨c, hc, hw⟩ := parse_end' s w h1 hd h2
  unfold afterL
  rw [hc]
  exact hw Q a w' hJ hQ
end Go.Proofs.YtgccppilhbannaaDoor
