/-
  Rules for numbers: a text put ahead of another; = and != with the same ranges. No program in sight.
-/
import Derived.Test.YtgbemhehbhlgpaaGreatDoorPlBk
namespace Go.Proofs.YtgbemhehbhlgpaaGreatDoor
open Go.PlainAid

theorem sh_bt {u v : ByteArray} (i : Nat) : bt (u ++ v) (u.size + i) = bt v i := by
  rw [bt_app, if_neg (by omega), Nat.add_sub_cancel_left]
theorem sh_sp {p : Int → Bool} {u v : ByteArray} : ∀ (f i : Nat), v.size - i = f → spTo p (u ++ v) (u.size + i) = u.size + spTo p v i
  | 0, i, h => by
    rw [spTo_stop (by rw [ByteArray.size_append]; omega), spTo_stop (by omega)]
  | f + 1, i, h => by
    by_cases hb : p (bt v i) = true
    · rw [spTo_go (i := i) (by omega) hb, spTo_go (i := u.size + i) (by rw [ByteArray.size_append]; omega) (by rw [sh_bt]; exact hb)]
      exact sh_sp f (i + 1) (by omega)
    · rw [spTo_stop (i := i) (fun g => hb g.2), spTo_stop (i := u.size + i) (fun g => hb (by have := g.2; rwa [sh_bt] at this))]
theorem sh_tkN {u v : ByteArray} (i : Nat) : tkN (u ++ v) (u.size + i) = tkN v i := by
  have a1 : (u.size + i < (u ++ v).size) = (i < v.size) := propext (by rw [ByteArray.size_append]; omega)
  have a2 : (u.size + i + 1 < (u ++ v).size) = (i + 1 < v.size) := propext (by rw [ByteArray.size_append]; omega)
  have a3 : bt (u ++ v) (u.size + i + 1) = bt v (i + 1) := sh_bt (i + 1)
  have a4 : spTo bDg (u ++ v) (u.size + i) - (u.size + i) = spTo bDg v i - i := by rw [sh_sp _ i rfl]; omega
  have a5 : spTo bLo (u ++ v) (u.size + i) - (u.size + i) = spTo bLo v i - i := by rw [sh_sp _ i rfl]; omega
  unfold tkN
  simp only [a1, a2, a3, a4, a5, sh_bt]
theorem sh_nx {u v : ByteArray} (i : Nat) : nx (u ++ v) (u.size + i) = u.size + nx v i := by
  unfold nx tkG
  rw [sh_tkN, Nat.add_assoc, sh_sp _ _ rfl]
theorem sh_tx {u v : ByteArray} {i : Nat} (h : i ≤ v.size) : tx (u ++ v) (u.size + i) = tx v i := by
  have h1 := tkN_in h
  have h2 : u.size + i + tkN v i ≤ (u ++ v).size := by rw [ByteArray.size_append]; omega
  unfold tx
  rw [sh_tkN]
  refine bytes_eq (by rw [size_sub _ _ _ h2, size_sub _ _ _ h1]; omega) fun j hj => ?_
  rw [size_sub _ _ _ h2] at hj
  rw [bt_sub _ _ _ _ (by omega) h2, bt_sub _ _ _ _ (by omega) h1, Nat.add_assoc, sh_bt]
/-- What is read, some bytes further on. -/
def Pr.up {α : Type} (n : Nat) : Pr α → Pr α
  | .bad p => .bad (n + p)
  | .ok p x t => .ok (n + p) x t
theorem rngF_sh {u v : ByteArray} : ∀ (f a : Nat) (l : List (Nat × Nat)) (t : ByteArray), a ≤ v.size → rngF (u ++ v) f (u.size + a) l t = (rngF v f a l t).up u.size
  | 0, _, _, _, _ => rfl
  | f + 1, a, l, t, ha => by
    have b1 := nx_in ha
    have b2 := nx_in b1
    have b3 := nx_in b2
    have b4 := nx_in b3
    simp only [rngF, sh_nx, sh_tx ha, sh_tx b1, sh_tx b2, sh_tx b3]
    cases numOf (tx v a) with
    | none => rfl
    | some n =>
      simp only
      split
      · cases numOf (tx v (nx v (nx v a))) with
        | none => rfl
        | some m =>
          simp only
          split
          · exact rngF_sh f _ _ _ b4
          · rfl
      · split
        · exact rngF_sh f _ _ _ b2
        · rfl
theorem rngR_sh {u v : ByteArray} {a : Nat} {l : List (Nat × Nat)} {t : ByteArray} (ha : a ≤ v.size) : rngR (u ++ v) (u.size + a) l t = (rngR v a l t).up u.size := by
  unfold rngR
  rw [show (u ++ v).size - (u.size + a) + 1 = v.size - a + 1 by rw [ByteArray.size_append]; omega]
  exact rngF_sh _ _ _ _ ha
theorem relT_sh {u v : ByteArray} {o : Int} {b a : Nat} {t : ByteArray} (ha : a ≤ v.size) : relT (u ++ v) o b (u.size + a) t = (relT v o b a t).up u.size := by
  unfold relT
  rw [sh_tx ha, sh_nx]
  split
  · rw [rngR_sh (nx_in ha)]
    cases rngR v (nx v a) [] (t ++ (⟨#[32]⟩ ++ tx v a ++ ⟨#[32]⟩)) <;> rfl
  · rfl
theorem relR_sh {u v : ByteArray} {a : Nat} {t : ByteArray} (ha : a ≤ v.size) : relR (u ++ v) (u.size + a) t = (relR v a t).up u.size := by
  have b1 := nx_in ha
  have b2 := nx_in b1
  unfold relR
  rw [sh_tx ha]
  cases opOf (tx v a) with
  | none => rfl
  | some o =>
    simp only
    rw [sh_nx, sh_tx b1]
    split
    · rw [sh_nx, sh_tx b2]
      cases numOf (tx v (nx v (nx v a))) with
      | none => rfl
      | some n => simp only; rw [sh_nx]; exact relT_sh (nx_in b2)
    · exact relT_sh b1
theorem ruleF_sh {u v : ByteArray} : ∀ (f a : Nat) (any : List (List Rl)) (t j : ByteArray), a ≤ v.size → (∃ q, ruleF (u ++ v) f (u.size + a) any t j = .bad q) = ∃ q, ruleF v f a any t j = .bad q
  | 0, a, any, t, j, _ => propext ⟨fun _ => ⟨_, rfl⟩, fun _ => ⟨_, rfl⟩⟩
  | f + 1, a, any, t, j, ha => by
    have hr := relR_sh (u := u) (t := jointT t j) ha
    cases h1 : relR v a (jointT t j) with
    | bad p =>
      rw [h1] at hr
      have hr : relR (u ++ v) (u.size + a) (jointT t j) = .bad (u.size + p) := hr
      simp only [ruleF, h1, hr]
      exact propext ⟨fun _ => ⟨_, rfl⟩, fun _ => ⟨_, rfl⟩⟩
    | ok p r t' =>
      rw [h1] at hr
      have hr : relR (u ++ v) (u.size + a) (jointT t j) = .ok (u.size + p) r t' := hr
      have h2 : relR v a ⟨#[]⟩ = .ok p r t' ∨ ∃ x, relR v a ⟨#[]⟩ = .ok p r x := by
        have h3 := relR_pre (s := v) (u := jointT t j) (a := a) (t := ⟨#[]⟩)
        rw [show jointT t j ++ ⟨#[]⟩ = jointT t j from ByteArray.append_empty, h1] at h3
        cases h4 : relR v a ⟨#[]⟩ with
        | bad q => rw [h4] at h3; cases h3
        | ok q r' x =>
          rw [h4] at h3
          injection h3 with e1 e2 _
          subst e1 e2
          exact .inr ⟨_, rfl⟩
      have hp : p ≤ v.size := by
        rcases h2 with h2 | ⟨x, h2⟩ <;> exact (relR_size h2 ha (Nat.zero_le _)).2.1
      simp only [ruleF, h1, hr, sh_tx hp, sh_nx]
      split
      · exact ruleF_sh f _ _ _ _ (nx_in hp)
      · split
        · exact propext ⟨fun ⟨_, e⟩ => (by cases e), fun ⟨_, e⟩ => (by cases e)⟩
        · exact propext ⟨fun _ => ⟨_, rfl⟩, fun _ => ⟨_, rfl⟩⟩
/-- Whether rules are refused hangs on the text alone. -/
theorem ruleF_any {s : ByteArray} : ∀ (f g a : Nat) (any any2 : List (List Rl)) (t t2 j j2 : ByteArray), a ≤ s.size → s.size < f + a → s.size < g + a → (∃ q, ruleF s f a any t j = .bad q) → ∃ q, ruleF s g a any2 t2 j2 = .bad q
  | 0, _, _, _, _, _, _, _, _, h, h0, _, _ => by omega
  | _ + 1, 0, _, _, _, _, _, _, _, h, _, h0, _ => by omega
  | f + 1, g + 1, a, any, any2, t, t2, j, j2, ha, hf, hg, h => by
    have e1 := relR_pre (s := s) (u := jointT t j) (a := a) (t := ⟨#[]⟩)
    have e2 := relR_pre (s := s) (u := jointT t2 j2) (a := a) (t := ⟨#[]⟩)
    rw [show jointT t j ++ ⟨#[]⟩ = jointT t j from ByteArray.append_empty] at e1
    rw [show jointT t2 j2 ++ ⟨#[]⟩ = jointT t2 j2 from ByteArray.append_empty] at e2
    cases h0 : relR s a ⟨#[]⟩ with
    | bad p =>
      rw [h0] at e2
      have e2 : relR s a (jointT t2 j2) = .bad p := e2
      exact ⟨p, by simp only [ruleF, e2]⟩
    | ok p r x =>
      have hp := relR_size h0 ha (Nat.zero_le _)
      rw [h0] at e1 e2
      have e1 : relR s a (jointT t j) = .ok p r (jointT t j ++ x) := e1
      have e2 : relR s a (jointT t2 j2) = .ok p r (jointT t2 j2 ++ x) := e2
      simp only [ruleF, e1] at h
      simp only [ruleF, e2]
      by_cases hj : tx s p = andB ∨ tx s p = orB
      · rw [if_pos hj] at h
        rw [if_pos hj]
        have hn := nx_ge (s := s) (a := p)
        exact ruleF_any f g (nx s p) _ _ _ _ _ _ (nx_in hp.2.1) (by omega) (by omega) h
      · rw [if_neg hj] at h
        rw [if_neg hj]
        split at h
        · obtain ⟨q, h⟩ := h; cases h
        · rename_i hz
          rw [if_neg hz]
          exact ⟨_, rfl⟩

/-- A rule's text is not longer than three times what it is read from. -/
theorem ruleF_size {s : ByteArray} : ∀ (f a : Nat) (any : List (List Rl)) (t j : ByteArray) (p : Nat) (rows : List (List Rl)) (t' : ByteArray), ruleF s f a any t j = .ok p rows t' → a ≤ s.size → (jointT t j).size ≤ 3 * a → t'.size ≤ 3 * s.size
  | 0, a, any, t, j, p, rows, t', h, _, _ => by simp [ruleF] at h
  | f + 1, a, any, t, j, p, rows, t', h, ha, ht => by
    cases hr : relR s a (jointT t j) with
    | bad q => simp [ruleF, hr] at h
    | ok q r t1 =>
      obtain ⟨h1, h2, h3⟩ := relR_size hr ha ht
      rw [ruleF_go hr] at h
      unfold goOn at h
      by_cases hj : tx s q = andB ∨ tx s q = orB
      · rw [if_pos hj] at h
        refine ruleF_size f _ _ _ _ _ _ _ h (nx_in h2) ?_
        have hJ := (joint_low hj).1
        have hz := tx_size h2
        have hn := nx_ge (s := s) (a := q)
        rcases Nat.eq_zero_or_pos t1.size with g | g
        · rw [jointT_none g]; omega
        · rw [jointT_pos g, ByteArray.size_append, bl_app]
          omega
      · rw [if_neg hj] at h
        split at h
        · injection h with _ _ e
          rw [← e]
          omega
        · cases h
theorem ruleP_size {s : ByteArray} {p : Nat} {rows : List (List Rl)} {t : ByteArray} (h : ruleP s = .ok p rows t) : t.size ≤ 3 * s.size := by
  unfold ruleP at h
  split at h
  · injection h with _ _ e
    rw [← e]
    exact Nat.zero_le _
  · exact ruleF_size _ _ _ _ _ _ _ _ h (spTo_in (Nat.zero_le _)) (by rw [jointT_nil]; exact Nat.zero_le _)

/-- The head of a relation of n: its sign of equality is '=' or '!='. -/
def hdB (q : ByteArray) : ByteArray := ⟨#[110, 32]⟩ ++ q ++ ⟨#[32]⟩
def isE (q : ByteArray) : Prop := q = ⟨#[61]⟩ ∨ q = ⟨#[33, 61]⟩
theorem hd_size (q : ByteArray) : (hdB q).size = q.size + 3 := by
  unfold hdB
  rw [ByteArray.size_append, ByteArray.size_append]
  show 2 + q.size + 1 = _
  omega
theorem hdt1 {q rest T : ByteArray} (hA : Has T 0 (⟨#[110, 32]⟩ ++ q ++ ⟨#[32]⟩ ++ rest)) : Has T 0 ⟨#[110, 32]⟩ := hA.left.left.left
theorem hdt2 {q rest T : ByteArray} (hA : Has T 0 (⟨#[110, 32]⟩ ++ q ++ ⟨#[32]⟩ ++ rest)) : Has T 2 q := by
  have h := hA.left.left.right
  rw [Nat.zero_add] at h
  exact h
theorem hdt3 {q rest T : ByteArray} (hA : Has T 0 (⟨#[110, 32]⟩ ++ q ++ ⟨#[32]⟩ ++ rest)) : Has T (2 + q.size) ⟨#[32]⟩ := by
  have h := hA.left.right
  rw [ByteArray.size_append, Nat.zero_add] at h
  exact h
theorem hdt4 {q rest : ByteArray} : Has (hdB q ++ rest) 0 (⟨#[110, 32]⟩ ++ q ++ ⟨#[32]⟩ ++ rest) := by unfold hdB; exact Has.all _
theorem hdt5 {T : ByteArray} (h2 : Has T 0 ⟨#[110, 32]⟩) : bt T 0 = 110 ∧ bt T 1 = 32 ∧ 2 ≤ T.size := by
  refine ⟨?_, ?_, ?_⟩
  · have h := h2.2 0 (by decide)
    exact h
  · have h := h2.2 1 (by decide)
    exact h
  · have h := h2.1
    exact h
theorem hdt6 {T : ByteArray} (c0 : bt T 0 = 110) (c1 : bt T 1 = 32) (z : 2 ≤ T.size) : tkN T 0 = 1 := by
  unfold tkN
  rw [if_neg (by omega), if_neg (fun g => by rw [c0] at g; exact absurd g (by decide)), if_pos (by rw [c0]; decide), spTo_go (by omega) (by rw [c0]; decide), spTo_stop (fun g => by rw [c1] at g; exact absurd g.2 (by decide))]
theorem hdt7 {T q : ByteArray} (hq : isE q) (h3 : Has T 2 q) : tkN T 2 = q.size := by
  rcases hq with rfl | rfl
  · exact tk_one h3 (.inl rfl)
  · exact tk_two h3 (.inl ⟨rfl, rfl⟩)
theorem hdt8 {T q : ByteArray} (hq : isE q) (h3 : Has T 2 q) : bt T 2 ≠ 32 := by
  rcases hq with rfl | rfl
  · have h : bt T 2 = 61 := h3.at0 (by decide)
    omega
  · have h : bt T 2 = 33 := h3.at0 (by decide)
    omega
theorem hdt9 {T : ByteArray} (h : Has T 0 ⟨#[110, 32]⟩) : Has T 0 ⟨#[110]⟩ := by
  obtain ⟨c0, _, z⟩ := hdt5 h
  refine ⟨by show 0 + 1 ≤ T.size; omega, fun j hj => ?_⟩
  have hj : j < 1 := hj
  obtain rfl : j = 0 := by omega
  exact c0
theorem hd_read {q rest : ByteArray} (hq : isE q) : tkG (hdB q ++ rest) 0 = 0 ∧ tx (hdB q ++ rest) 0 = ⟨#[110]⟩ ∧ nx (hdB q ++ rest) 0 = 2 ∧ tx (hdB q ++ rest) 2 = q ∧ nx (hdB q ++ rest) 2 = (hdB q).size + tkG rest 0 := by
  have hz := hd_size q
  have hA := hdt4 (q := q) (rest := rest)
  have hg : tkG (hdB q ++ rest) ((hdB q).size + 0) = (hdB q).size + tkG rest 0 := sh_sp _ 0 rfl
  generalize hdB q ++ rest = T at *
  have h2 := hdt1 hA
  have h3 := hdt2 hA
  have h4 := hdt3 hA
  obtain ⟨c0, c1, z0⟩ := hdt5 h2
  have k0 := hdt6 c0 c1 z0
  have k2 := hdt7 hq h3
  have c2 := hdt8 hq h3
  have c3 : bt T (2 + q.size) = 32 := h4.at0 (by decide)
  have z2 : 2 + q.size + 1 ≤ T.size := h4.1
  have g1 : tkG T 1 = 2 := by
    rw [tkG_go (q := 1) (by omega) c1]
    exact tkG_stop (q := 2) (fun g => c2 g.2)
  have g2 : tkG T (2 + q.size) = (hdB q).size + tkG rest 0 := by
    rw [tkG_go (q := 2 + q.size) (by omega) c3, ← hg]
    exact congrArg (tkG T) (by omega)
  refine ⟨tkG_stop (q := 0) (fun g => by omega), tx_of (hdt9 h2) k0, ?_, tx_of h3 k2, ?_⟩
  · show tkG T (0 + tkN T 0) = 2
    rw [k0]
    exact g1
  · show tkG T (2 + tkN T 2) = _
    rw [k2]
    exact g2
theorem rel_head {q rest : ByteArray} (hq : isE q) : relR (hdB q ++ rest) 0 ⟨#[]⟩ = match rngR rest (tkG rest 0) [] ⟨#[]⟩ with
    | .bad p => .bad ((hdB q).size + p)
    | .ok p l t => .ok ((hdB q).size + p) ⟨110, 0, decide (q = ⟨#[33, 61]⟩), l⟩ (hdB q ++ t) := by
  obtain ⟨_, t0, n0, t2, n2⟩ := hd_read (rest := rest) hq
  have hg : tkG rest 0 ≤ rest.size := spTo_in (Nat.zero_le _)
  have ho : opOf (⟨#[110]⟩ : ByteArray) = some 110 := by decide +kernel
  have h37 : q ≠ ⟨#[37]⟩ := by rcases hq with rfl | rfl <;> decide
  have he : (⟨#[]⟩ : ByteArray) ++ ⟨#[110]⟩ ++ (⟨#[32]⟩ ++ q ++ ⟨#[32]⟩) = hdB q ++ ⟨#[]⟩ := by rcases hq with rfl | rfl <;> rfl
  have hr : rngR (hdB q ++ rest) ((hdB q).size + tkG rest 0) [] (hdB q ++ ⟨#[]⟩) = ((rngR rest (tkG rest 0) [] ⟨#[]⟩).pre (hdB q)).up (hdB q).size := by
    rw [rngR_sh hg]
    unfold rngR
    rw [rngF_pre]
  unfold relR
  rw [t0, ho]
  simp only
  rw [n0, t2, if_neg h37]
  unfold relT
  rw [t2, if_pos (show q = ⟨#[61]⟩ ∨ q = ⟨#[33, 61]⟩ from hq), n2, he, hr]
  cases rngR rest (tkG rest 0) [] ⟨#[]⟩ <;> rfl
/-- The rule of such a text. -/
theorem hd_rule {q rest : ByteArray} (hq : isE q) : ruleP (hdB q ++ rest) = match rngR rest (tkG rest 0) [] ⟨#[]⟩ with
    | .bad p => .bad ((hdB q).size + p)
    | .ok p l t => goOn (hdB q ++ rest) (hdB q ++ rest).size ((hdB q).size + p) [[⟨110, 0, decide (q = ⟨#[33, 61]⟩), l⟩]] (hdB q ++ t) := by
  obtain ⟨g0, t0, _, _, _⟩ := hd_read (rest := rest) hq
  have h := rel_head (rest := rest) hq
  unfold ruleP
  rw [g0, t0, if_neg (by decide)]
  cases hr : rngR rest (tkG rest 0) [] ⟨#[]⟩ with
  | bad p =>
    rw [hr] at h
    simp only at h
    simp only [ruleF, jointT_nil, h]
  | ok p l t =>
    rw [hr] at h
    simp only at h
    rw [ruleF_go (by rw [jointT_nil]; exact h)]
    rfl
theorem hd_in {rest : ByteArray} {p : Nat} {l : List (Nat × Nat)} {t : ByteArray} (h : rngR rest (tkG rest 0) [] ⟨#[]⟩ = .ok p l t) : p ≤ rest.size := by
  have h1 := rel_head (q := ⟨#[61]⟩) (rest := rest) (.inl rfl)
  rw [h] at h1
  have h2 := (relR_size h1 (Nat.zero_le _) (Nat.zero_le _)).2.1
  rw [ByteArray.size_append] at h2
  omega
theorem turned_bad {q q2 rest : ByteArray} (hq : isE q) (hq2 : isE q2) (h : ∃ x, ruleP (hdB q ++ rest) = .bad x) : ∃ x, ruleP (hdB q2 ++ rest) = .bad x := by
  rw [hd_rule hq] at h
  rw [hd_rule hq2]
  cases hr : rngR rest (tkG rest 0) [] ⟨#[]⟩ with
  | bad p => exact ⟨_, rfl⟩
  | ok p l t =>
    have hp := hd_in hr
    rw [hr] at h
    simp only at h ⊢
    unfold goOn at h ⊢
    rw [sh_tx hp, sh_nx] at h
    rw [sh_tx hp, sh_nx]
    by_cases hj : tx rest p = andB ∨ tx rest p = orB
    · rw [if_pos hj] at h
      rw [if_pos hj]
      have hn := nx_in hp
      have hge := nx_ge (s := rest) (a := p)
      rw [ruleF_sh _ _ _ _ _ hn] at h
      rw [ruleF_sh _ _ _ _ _ hn]
      have hj1 : 1 ≤ tkN rest p := by rw [← tx_size hp]; exact (joint_low hj).1
      exact ruleF_any _ _ _ _ _ _ _ _ _ hn (by rw [ByteArray.size_append]; omega) (by rw [ByteArray.size_append]; omega) h
    · rw [if_neg hj] at h
      rw [if_neg hj]
      split at h
      · obtain ⟨x, h⟩ := h; cases h
      · rename_i hz
        rw [if_neg hz]
        exact ⟨_, rfl⟩
theorem turned_rows {rest : ByteArray} {p1 p2 : Nat} {rows1 rows2 : List (List Rl)} {t1 t2 : ByteArray} (h1 : ruleP (hdB ⟨#[61]⟩ ++ rest) = .ok p1 rows1 t1) (h2 : ruleP (hdB ⟨#[33, 61]⟩ ++ rest) = .ok p2 rows2 t2) :
    (∃ k, Has t1 k ⟨#[97, 110]⟩ ∨ Has t1 k ⟨#[111, 114]⟩) ∨ ∃ l, rows1 = [[⟨110, 0, false, l⟩]] ∧ rows2 = [[⟨110, 0, true, l⟩]] := by
  rw [hd_rule (.inl rfl)] at h1
  rw [hd_rule (.inr rfl)] at h2
  cases hr : rngR rest (tkG rest 0) [] ⟨#[]⟩ with
  | bad p => rw [hr] at h1; cases h1
  | ok p l t =>
    have hp := hd_in hr
    rw [hr] at h1 h2
    simp only at h1 h2
    unfold goOn at h1 h2
    rw [sh_tx hp, sh_nx] at h1 h2
    by_cases hj : tx rest p = andB ∨ tx rest p = orB
    · rw [if_pos hj] at h1
      obtain ⟨x, r, L, e1, _⟩ := rule_again _ _ _ _ _ _ _ _ h1
      rw [jointT_pos (by rw [ByteArray.size_append, hd_size]; omega)] at e1
      obtain ⟨y, hy⟩ : ∃ y, hdB ⟨#[61]⟩ ++ t = y := ⟨_, rfl⟩
      rw [hy] at e1
      have hH : Has t1 y.size (⟨#[32]⟩ ++ tx rest p ++ ⟨#[32]⟩) := by rw [e1]; exact Has.mk' _ _ _
      have hJ : Has t1 (y.size + 1) (tx rest p) := hH.left.right
      rcases hj with hj | hj
      · rw [hj] at hJ
        exact .inl ⟨_, .inl (show Has t1 (y.size + 1) (⟨#[97, 110]⟩ ++ ⟨#[100]⟩) from hJ).left⟩
      · rw [hj] at hJ
        exact .inl ⟨_, .inr hJ⟩
    · rw [if_neg hj] at h1 h2
      split at h1
      · rename_i hz
        rw [if_pos hz] at h2
        injection h1 with _ e1 _
        injection h2 with _ e2 _
        exact .inr ⟨l, e1.symm, e2.symm⟩
      · cases h1
theorem turned_not (ds : ByteArray) (k : Nat) (l : List (Nat × Nat)) : rowsH ds k [[⟨110, 0, true, l⟩]] = !rowsH ds k [[⟨110, 0, false, l⟩]] := by
  simp only [rowsH, List.any_cons, List.any_nil, List.all_cons, List.all_nil, Bool.or_false, Bool.and_true, rlH]
  cases inD l (mdD 0 (opD 110 ds k)) <;> rfl
end Go.Proofs.YtgbemhehbhlgpaaGreatDoor
