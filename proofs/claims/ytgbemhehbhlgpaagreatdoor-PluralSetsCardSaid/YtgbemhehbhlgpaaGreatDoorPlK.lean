/-
  Rules for numbers: what a rule's text is read as when it is read again: relations, rows. No program in sight.
-/
import Derived.Test.YtgbemhehbhlgpaaGreatDoorPlJ
namespace Go.Proofs.YtgbemhehbhlgpaaGreatDoor
open Go.PlainAid

theorem opOf_low {u : ByteArray} {o : Int} (h : opOf u = some o) : u.size = 1 ∧ bLo (bt u 0) = true ∧ o = bt u 0 := by
  unfold opOf at h
  split at h
  · rename_i g
    obtain ⟨h1, h2⟩ := g
    refine ⟨h1, ?_, (Option.some.inj h).symm⟩
    unfold bLo
    rcases h2 with e | e | e | e | e | e <;> rw [e] <;> rfl
  · cases h
theorem blank_bt {T : ByteArray} {i : Nat} {u v : ByteArray} (h : Has T i (⟨#[32]⟩ ++ u ++ v)) : i < T.size ∧ bt T i = 32 ∧ Has T (i + 1) u := by
  have h1 := h.left.left
  have h2 := h.left.right
  have h3 := h1.2 0 (by decide)
  rw [Nat.add_zero] at h3
  exact ⟨by have : i + 1 ≤ T.size := h1.1; omega, by rw [h3]; rfl, h2⟩
theorem tkG_one {T : ByteArray} {i : Nat} (h1 : i < T.size) (h2 : bt T i = 32) (h3 : ¬ (i + 1 < T.size ∧ bt T (i + 1) = 32)) : tkG T i = i + 1 := by
  rw [tkG_go h1 h2]
  exact tkG_stop h3
theorem Has.at0 {T : ByteArray} {i : Nat} {u : ByteArray} (h : Has T i u) (h1 : 0 < u.size) : bt T i = bt u 0 := by
  have := h.2 0 h1
  rwa [Nat.add_zero] at this

set_option maxHeartbeats 1000000 in
/-- The sign of a relation, and its ranges. -/
theorem relT_again {s : ByteArray} {o : Int} {b a : Nat} {t : ByteArray} {p : Nat} {r : Rl} {t' : ByteArray} (h : relT s o b a t = .ok p r t') :
    ∃ rs nt x, r = ⟨o, b, nt, rs⟩ ∧ t' = t ++ (⟨#[32]⟩ ++ x) ∧ (bt x 0 = 61 ∨ bt x 0 = 33) ∧ 3 ≤ x.size ∧
      ∀ T i o0 b0 t0, Has T i x → FinR T (i + x.size) → relT T o0 b0 i t0 = .ok (tkG T (i + x.size)) ⟨o0, b0, nt, rs⟩ (t0 ++ (⟨#[32]⟩ ++ x)) := by
  unfold relT at h
  by_cases hs : tx s a = ⟨#[61]⟩ ∨ tx s a = ⟨#[33, 61]⟩
  · rw [if_pos hs] at h
    cases hr : rngR s (nx s a) [] (t ++ (⟨#[32]⟩ ++ tx s a ++ ⟨#[32]⟩)) with
    | bad q => rw [hr] at h; cases h
    | ok q l t1 =>
      rw [hr] at h
      simp only at h
      injection h with h1 h2 h3
      obtain ⟨l2, x, e1, e2, e3, e4, e5⟩ := rng_again _ _ _ _ _ _ _ hr
      rw [List.nil_append] at e1
      subst e1
      refine ⟨l, decide (tx s a = ⟨#[33, 61]⟩), tx s a ++ ⟨#[32]⟩ ++ x, h2.symm, by rw [← h3, e2]; simp only [ByteArray.append_assoc], ?_, ?_, ?_⟩
      · rcases hs with e | e <;> rw [e, bt_app, if_pos (by rw [ByteArray.size_append]; decide +revert), bt_app, if_pos (by decide)]
        · exact .inl rfl
        · exact .inr rfl
      · rw [ByteArray.size_append, ByteArray.size_append]
        show 3 ≤ (tx s a).size + 1 + x.size
        rcases hs with e | e <;> rw [e]
        · show 3 ≤ 1 + 1 + x.size; omega
        · show 3 ≤ 2 + 1 + x.size; omega
      · intro T i o0 b0 t0 hH hF
        have hU := hH.left.left
        have hB := hH.left.right
        have hX := hH.right
        have hz : (tx s a ++ ⟨#[32]⟩ ++ x).size = (tx s a).size + 1 + x.size := by rw [ByteArray.size_append, ByteArray.size_append]; rfl
        have hzu : (tx s a ++ (⟨#[32]⟩ : ByteArray)).size = (tx s a).size + 1 := by rw [ByteArray.size_append]; rfl
        rw [hzu] at hX
        rw [hz] at hF ⊢
        have hb0 : bt T (i + (tx s a).size) = 32 := hB.at0 (by decide)
        have hbl : i + (tx s a).size + 1 ≤ T.size := hB.1
        have hx0 : bt T (i + ((tx s a).size + 1)) = bt x 0 := hX.at0 (by omega)
        have hxd := of_decide_eq_true e4
        have hk : tkN T i = (tx s a).size := by
          rcases hs with e | e
          · rw [e] at hU ⊢
            exact tk_one hU (.inl rfl)
          · rw [e] at hU ⊢
            exact tk_two hU (.inl ⟨rfl, rfl⟩)
        have ht := tx_of hU hk
        have hn : nx T i = i + (tx s a).size + 1 := by
          unfold nx
          rw [hk]
          exact tkG_one (by omega) hb0 (fun g => by rw [show i + (tx s a).size + 1 = i + ((tx s a).size + 1) by omega, hx0] at g; omega)
        generalize tx s a = u at *
        unfold relT
        rw [ht, if_pos hs, hn]
        unfold rngR
        have h6 := e5 T (i + u.size + 1) (T.size - (i + u.size + 1) + 1) [] (t0 ++ (⟨#[32]⟩ ++ u ++ ⟨#[32]⟩)) (by rwa [show i + u.size + 1 = i + (u.size + 1) by omega]) (by rwa [show i + u.size + 1 + x.size = i + (u.size + 1 + x.size) by omega]) (by have := hX.1; omega)
        rw [h6]
        simp only [List.nil_append]
        exact ok_eq (by rw [show i + u.size + 1 + x.size = i + (u.size + 1 + x.size) by omega]) rfl (by simp only [ByteArray.append_assoc])
  · rw [if_neg hs] at h
    cases h
/-- A relation is read again as itself. -/
theorem rel_again {s : ByteArray} {a : Nat} {t : ByteArray} {p : Nat} {r : Rl} {t' : ByteArray} (h : relR s a t = .ok p r t') :
    ∃ x, t' = t ++ x ∧ 1 ≤ x.size ∧ bLo (bt x 0) = true ∧
      ∀ T i t0, Has T i x → FinR T (i + x.size) → relR T i t0 = .ok (tkG T (i + x.size)) r (t0 ++ x) := by
  unfold relR at h
  cases ho : opOf (tx s a) with
  | none => rw [ho] at h; cases h
  | some o =>
    rw [ho] at h
    simp only at h
    obtain ⟨hu1, hul, huo⟩ := opOf_low ho
    generalize tx s a = u at *
    have hop : ∀ (T : ByteArray) (i : Nat), Has T i u → bt T (i + 1) = 32 → tkN T i = u.size ∧ tx T i = u := by
      intro T i hH hb
      have k := tk_low hH (by omega) (fun j hj => by rw [show j = 0 by omega]; exact hul) (fun g => by rw [hu1, hb] at g; have := of_decide_eq_true g.2; omega)
      exact ⟨k, tx_of hH k⟩
    by_cases hp : tx s (nx s a) = ⟨#[37]⟩
    · rw [if_pos hp] at h
      cases hn : numOf (tx s (nx s (nx s a))) with
      | none => rw [hn] at h; cases h
      | some n =>
        rw [hn] at h
        simp only at h
        obtain ⟨hv1, hvd⟩ := numOf_dig hn
        generalize tx s (nx s (nx s a)) = v at *
        obtain ⟨rs, nt, x, e1, e2, e3, e4, e5⟩ := relT_again h
        refine ⟨u ++ ((⟨#[32, 37, 32]⟩ ++ v) ++ (⟨#[32]⟩ ++ x)), by rw [e2]; simp only [ByteArray.append_assoc], by simp only [ByteArray.size_append]; omega, by rw [bt_app, if_pos (by omega)]; exact hul, ?_⟩
        intro T i t0 hH hF
        have hz : (u ++ ((⟨#[32, 37, 32]⟩ ++ v) ++ (⟨#[32]⟩ ++ x))).size = 1 + (3 + v.size + (1 + x.size)) := by
          simp only [ByteArray.size_append, hu1]
          rfl
        rw [hz] at hF ⊢
        have hU := hH.left
        have hM := hH.right
        rw [hu1] at hM
        have hP := hM.left.left
        have hV : Has T (i + 4) v := hM.left.right
        have hS := hM.right
        have hvz : ((⟨#[32, 37, 32]⟩ : ByteArray) ++ v).size = 3 + v.size := by rw [ByteArray.size_append]; rfl
        rw [hvz] at hS
        have hB := hS.left
        have hX : Has T (i + 1 + (3 + v.size) + 1) x := hS.right
        have p1 : bt T (i + 1) = 32 := hP.2 0 (by decide)
        have p2 : bt T (i + 2) = 37 := hP.2 1 (by decide)
        have p3 : bt T (i + 3) = 32 := hP.2 2 (by decide)
        have pz : i + 1 + 3 ≤ T.size := hP.1
        have q1 : bt T (i + 1 + (3 + v.size)) = 32 := hB.at0 (by decide)
        have qz : i + 1 + (3 + v.size) + 1 ≤ T.size := hB.1
        have v0 : bt T (i + 4) = bt v 0 := hV.at0 (by omega)
        have vd := of_decide_eq_true (hvd 0 (by omega))
        have x0 : bt T (i + 1 + (3 + v.size) + 1) = bt x 0 := hX.at0 (by omega)
        obtain ⟨k1, t1⟩ := hop T i hU p1
        have n1 : nx T i = i + 2 := by
          unfold nx
          rw [k1, hu1]
          exact tkG_one (by omega) p1 (fun g => by rw [show i + 1 + 1 = i + 2 by omega, p2] at g; omega)
        have hPc : Has T (i + 2) ⟨#[37]⟩ := ⟨by show i + 2 + 1 ≤ T.size; omega, fun j hj => by
          have : j = 0 := by have : j < 1 := hj; omega
          subst this
          rw [Nat.add_zero, p2]; rfl⟩
        have k2 := tk_one hPc (.inr (.inl rfl))
        have t2 := tx_of hPc k2
        have n2 : nx T (i + 2) = i + 4 := by
          unfold nx
          rw [k2]
          exact tkG_one (by omega) p3 (fun g => by rw [show i + 2 + 1 + 1 = i + 4 by omega, v0] at g; omega)
        have k3 := tk_dig hV hv1 hvd (fun g => by rw [show i + 4 + v.size = i + 1 + (3 + v.size) by omega, q1] at g; have := of_decide_eq_true g.2; omega)
        have t3 := tx_of hV k3
        have n3 : nx T (i + 4) = i + 1 + (3 + v.size) + 1 := by
          unfold nx
          rw [k3, show i + 4 + v.size = i + 1 + (3 + v.size) by omega]
          exact tkG_one (by omega) q1 (fun g => by rw [x0] at g; omega)
        have h6 := e5 T _ o n (t0 ++ u ++ (⟨#[32, 37, 32]⟩ ++ v)) hX (by rwa [show i + 1 + (3 + v.size) + 1 + x.size = i + (1 + (3 + v.size + (1 + x.size))) by omega])
        unfold relR
        rw [t1, ho]
        simp only
        rw [n1, t2, if_pos rfl, n2, t3, hn]
        simp only
        rw [n3, h6, e1]
        exact ok_eq (by rw [show i + 1 + (3 + v.size) + 1 + x.size = i + (1 + (3 + v.size + (1 + x.size))) by omega]) rfl (by simp only [ByteArray.append_assoc])
    · rw [if_neg hp] at h
      obtain ⟨rs, nt, x, e1, e2, e3, e4, e5⟩ := relT_again h
      refine ⟨u ++ (⟨#[32]⟩ ++ x), by rw [e2]; simp only [ByteArray.append_assoc], by simp only [ByteArray.size_append]; omega, by rw [bt_app, if_pos (by omega)]; exact hul, ?_⟩
      intro T i t0 hH hF
      have hz : (u ++ (⟨#[32]⟩ ++ x)).size = 1 + (1 + x.size) := by
        simp only [ByteArray.size_append, hu1]
        rfl
      rw [hz] at hF ⊢
      have hU := hH.left
      have hM := hH.right
      rw [hu1] at hM
      have hB := hM.left
      have hX : Has T (i + 1 + 1) x := hM.right
      have p1 : bt T (i + 1) = 32 := hB.at0 (by decide)
      have pz : i + 1 + 1 ≤ T.size := hB.1
      have x0 : bt T (i + 1 + 1) = bt x 0 := hX.at0 (by omega)
      obtain ⟨k1, t1⟩ := hop T i hU p1
      have n1 : nx T i = i + 1 + 1 := by
        unfold nx
        rw [k1, hu1]
        exact tkG_one (by omega) p1 (fun g => by rw [x0] at g; omega)
      have hnp : tx T (i + 1 + 1) ≠ ⟨#[37]⟩ := fun e => by
        have hk : tkN T (i + 1 + 1) ≤ T.size - (i + 1 + 1) := by have := tkN_in (s := T) (a := i + 1 + 1) (by omega); omega
        have hs := tx_size (s := T) (a := i + 1 + 1) (by omega)
        rw [e] at hs
        have hs : 1 = tkN T (i + 1 + 1) := hs
        have hb : bt (tx T (i + 1 + 1)) 0 = bt T (i + 1 + 1) := by
          unfold tx
          rw [bt_sub _ _ _ _ (by omega) (by omega), Nat.add_zero]
        rw [e] at hb
        have hb : (37 : Int) = bt T (i + 1 + 1) := hb
        omega
      have h6 := e5 T _ o 0 (t0 ++ u) hX (by rwa [show i + 1 + 1 + x.size = i + (1 + (1 + x.size)) by omega])
      unfold relR
      rw [t1, ho]
      simp only
      rw [n1, if_neg hnp, h6, e1]
      exact ok_eq (by rw [show i + 1 + 1 + x.size = i + (1 + (1 + x.size)) by omega]) rfl (by simp only [ByteArray.append_assoc])

/-- Relations put behind rows, each with the joint ahead of it. -/
def stp (any : List (List Rl)) (x : ByteArray × Rl) : List (List Rl) := putRow (if x.1 = orB then any ++ [[]] else any) x.2
def adds (any : List (List Rl)) (L : List (ByteArray × Rl)) : List (List Rl) := L.foldl stp any
/-- What stands behind a rule's relations: the end, or a joint with more behind it. -/
def goOn (T : ByteArray) (F q : Nat) (any : List (List Rl)) (t : ByteArray) : Pr (List (List Rl)) :=
  if tx T q = andB ∨ tx T q = orB then ruleF T F (nx T q) any t (tx T q) else if (tx T q).size = 0 then .ok q any t else .bad q
theorem ruleF_go {T : ByteArray} {F a : Nat} {any : List (List Rl)} {t j : ByteArray} {p : Nat} {r : Rl} {t' : ByteArray} (h : relR T a (jointT t j) = .ok p r t') : ruleF T (F + 1) a any t j = goOn T F p (stp any (j, r)) t' := by
  simp only [ruleF, h]
  rfl
theorem joint_low {j : ByteArray} (h : j = andB ∨ j = orB) : 1 ≤ j.size ∧ ∀ k, k < j.size → bLo (bt j k) = true := by
  rcases h with rfl | rfl
  · exact ⟨by decide, fun k hk => by
      have : k < 3 := hk
      have h : ∀ k : Fin 3, bLo (bt andB k.val) = true := by decide
      exact h ⟨k, this⟩⟩
  · exact ⟨by decide, fun k hk => by
      have : k < 2 := hk
      have h : ∀ k : Fin 2, bLo (bt orB k.val) = true := by decide
      exact h ⟨k, this⟩⟩
theorem tx_none {T : ByteArray} {q : Nat} (h : (tx T q).size = 0) : tx T q ≠ andB ∧ tx T q ≠ orB :=
  ⟨fun e => (by rw [e] at h; cases h), fun e => (by rw [e] at h; cases h)⟩
/-- The joint that lies behind a text, and what comes behind it. -/
theorem joint_at {T : ByteArray} {i : Nat} {j x : ByteArray} (hj : j = andB ∨ j = orB) (h : Has T i (⟨#[32]⟩ ++ j ++ ⟨#[32]⟩ ++ x)) (hx : 1 ≤ x.size) (h0 : bLo (bt x 0) = true) :
    FinR T i ∧ tkG T i = i + 1 ∧ tx T (i + 1) = j ∧ nx T (i + 1) = i + (2 + j.size) ∧ Has T (i + (2 + j.size)) x := by
  obtain ⟨j1, jl⟩ := joint_low hj
  have hB := h.left.left.left
  have hJ : Has T (i + 1) j := h.left.left.right
  have hz1 : ((⟨#[32]⟩ : ByteArray) ++ j).size = 1 + j.size := by rw [ByteArray.size_append]; rfl
  have hz2 : ((⟨#[32]⟩ : ByteArray) ++ j ++ ⟨#[32]⟩).size = 2 + j.size := by rw [ByteArray.size_append, hz1]; show 1 + j.size + 1 = _; omega
  have hC := h.left.right
  rw [hz1] at hC
  have hX := h.right
  rw [hz2] at hX
  have b0 : bt T i = 32 := hB.at0 (by decide)
  have b1 : i + 1 ≤ T.size := hB.1
  have c0 : bt T (i + (1 + j.size)) = 32 := hC.at0 (by decide)
  have c1 : i + (1 + j.size) + 1 ≤ T.size := hC.1
  have d0 : bt T (i + 1) = bt j 0 := hJ.at0 (by omega)
  have d1 := of_decide_eq_true (jl 0 (by omega))
  have x0 : bt T (i + (2 + j.size)) = bt x 0 := hX.at0 (by omega)
  have x1 := of_decide_eq_true h0
  have g0 : tkG T i = i + 1 := tkG_one (by omega) b0 (fun g => by omega)
  have k := tk_low hJ j1 jl (fun g => by rw [show i + 1 + j.size = i + (1 + j.size) by omega, c0] at g; have := of_decide_eq_true g.2; omega)
  have t := tx_of hJ k
  refine ⟨⟨.inr b0, by rw [g0, t]; exact .inr hj⟩, g0, t, ?_, hX⟩
  unfold nx
  rw [k, show i + 1 + j.size = i + (1 + j.size) by omega]
  rw [tkG_one (by omega) c0 (fun g => by rw [show i + (1 + j.size) + 1 = i + (2 + j.size) by omega, x0] at g; omega)]
  omega
theorem jointT_pos {t j : ByteArray} (h : 0 < t.size) : jointT t j = t ++ (⟨#[32]⟩ ++ j ++ ⟨#[32]⟩) := by
  unfold jointT
  rw [if_pos h]

/-- Text of relations with their joints, behind the first one. -/
def isJ (j : ByteArray) : Prop := j = andB ∨ j = orB
theorem rule_again {s : ByteArray} : ∀ (f a : Nat) (any : List (List Rl)) (t j : ByteArray) (p : Nat) (any' : List (List Rl)) (t' : ByteArray), ruleF s f a any t j = .ok p any' t' →
    ∃ x r L, t' = jointT t j ++ x ∧ 1 ≤ x.size ∧ bLo (bt x 0) = true ∧ any' = adds any ((j, r) :: L) ∧ (∀ y ∈ L, isJ y.1) ∧
      ((∃ y ∈ L, y.1 = orB) → ∃ k, Has x k ⟨#[32, 111, 114, 32]⟩ ∧ k + 4 < x.size) ∧ ((∃ y ∈ L, y.1 = andB) → ∃ k, Has x k ⟨#[97, 110]⟩) ∧ ((∃ y ∈ L, y.1 = orB) → ∃ k, Has x k ⟨#[111, 114]⟩) ∧
      ∀ T i F any0 t0 j0, Has T i x → FinR T (i + x.size) → x.size ≤ F → ∃ F', F ≤ F' + x.size ∧ ruleF T F i any0 t0 j0 = goOn T F' (tkG T (i + x.size)) (adds any0 ((j0, r) :: L)) (jointT t0 j0 ++ x)
  | 0, a, any, t, j, p, any', t', h => by simp [ruleF] at h
  | f + 1, a, any, t, j, p, any', t', h => by
    cases hr : relR s a (jointT t j) with
    | bad q => simp [ruleF, hr] at h
    | ok q r t1 =>
      rw [ruleF_go hr] at h
      obtain ⟨x, e1, e2, e3, e4⟩ := rel_again hr
      unfold goOn at h
      by_cases hj : tx s q = andB ∨ tx s q = orB
      · rw [if_pos hj] at h
        obtain ⟨x2, r2, L2, g1, g2, g3, g4, g5, g6, g6a, g6b, g7⟩ := rule_again f _ _ _ _ _ _ _ h
        generalize tx s q = J at *
        have ht1 : 0 < t1.size := by rw [e1, ByteArray.size_append]; omega
        rw [jointT_pos ht1, e1] at g1
        have hX : ∀ k u, Has x2 k u → Has (x ++ (⟨#[32]⟩ ++ J ++ ⟨#[32]⟩) ++ x2) ((x ++ (⟨#[32]⟩ ++ J ++ ⟨#[32]⟩)).size + k) u := by
          intro k u hu
          refine ⟨by have hs : (x ++ (⟨#[32]⟩ ++ J ++ ⟨#[32]⟩) ++ x2).size = (x ++ (⟨#[32]⟩ ++ J ++ ⟨#[32]⟩)).size + x2.size := ByteArray.size_append; have := hu.1; omega, fun i hi => ?_⟩
          rw [bt_app, if_neg (by omega), show (x ++ (⟨#[32]⟩ ++ J ++ ⟨#[32]⟩)).size + k + i - (x ++ (⟨#[32]⟩ ++ J ++ ⟨#[32]⟩)).size = k + i by omega]
          exact hu.2 i hi
        have hJJ : Has (x ++ (⟨#[32]⟩ ++ J ++ ⟨#[32]⟩) ++ x2) x.size (⟨#[32]⟩ ++ J ++ ⟨#[32]⟩) := Has.mk' x _ x2
        have hsub : ∀ {T : ByteArray} {k : Nat} {u v : ByteArray} {n : Nat}, Has T k u → Has u n v → Has T (k + n) v := fun h1 h2 => ⟨by have := h1.1; have := h2.1; omega, fun i hi => by rw [Nat.add_assoc, h1.2 _ (by have := h2.1; omega)]; exact h2.2 i hi⟩
        have hzJ : (x ++ (⟨#[32]⟩ ++ J ++ ⟨#[32]⟩) ++ x2).size = x.size + (2 + J.size) + x2.size := by
          simp only [ByteArray.size_append]
          show x.size + (1 + J.size + 1) + x2.size = _
          omega
        refine ⟨x ++ (⟨#[32]⟩ ++ J ++ ⟨#[32]⟩) ++ x2, r, (J, r2) :: L2, by rw [g1]; simp only [ByteArray.append_assoc], by simp only [ByteArray.size_append]; omega, ?_, ?_, ?_, ?_, ?_, ?_, ?_⟩
        · rw [bt_app, if_pos (by rw [ByteArray.size_append]; omega), bt_app, if_pos (by omega)]
          exact e3
        · rw [g4]; rfl
        · intro y hy
          rcases List.mem_cons.1 hy with rfl | hy
          · exact hj
          · exact g5 y hy
        · intro ⟨y, hy, hor⟩
          rcases List.mem_cons.1 hy with rfl | hy
          · have hor : J = orB := hor
            subst hor
            exact ⟨x.size, hJJ, by rw [hzJ]; show x.size + 4 < x.size + (2 + 2) + x2.size; omega⟩
          · obtain ⟨k, hk, hk2⟩ := g6 ⟨y, hy, hor⟩
            exact ⟨_, hX k _ hk, by have hs : (x ++ (⟨#[32]⟩ ++ J ++ ⟨#[32]⟩) ++ x2).size = (x ++ (⟨#[32]⟩ ++ J ++ ⟨#[32]⟩)).size + x2.size := ByteArray.size_append; omega⟩
        · intro ⟨y, hy, hor⟩
          rcases List.mem_cons.1 hy with rfl | hy
          · have hor : J = andB := hor
            subst hor
            exact ⟨_, hsub hJJ (n := 1) ⟨by decide, by decide⟩⟩
          · obtain ⟨k, hk⟩ := g6a ⟨y, hy, hor⟩
            exact ⟨_, hX k _ hk⟩
        · intro ⟨y, hy, hor⟩
          rcases List.mem_cons.1 hy with rfl | hy
          · have hor : J = orB := hor
            subst hor
            exact ⟨_, hsub hJJ (n := 1) ⟨by decide, by decide⟩⟩
          · obtain ⟨k, hk⟩ := g6b ⟨y, hy, hor⟩
            exact ⟨_, hX k _ hk⟩
        · intro T i F any0 t0 j0 hH hF hf
          rw [hzJ] at hF hf
          obtain ⟨F, rfl⟩ : ∃ F', F = F' + 1 := ⟨F - 1, by omega⟩
          have hH1 : Has T i x := by rw [ByteArray.append_assoc] at hH; exact hH.left
          have hH2 : Has T (i + x.size) (⟨#[32]⟩ ++ J ++ ⟨#[32]⟩ ++ x2) := by rw [ByteArray.append_assoc] at hH; exact hH.right
          obtain ⟨f1, f2, f3, f4, f5⟩ := joint_at hj hH2 g2 g3
          have h6 := e4 T i (jointT t0 j0) hH1 f1
          rw [f2] at h6
          obtain ⟨F', k1, k2⟩ := g7 T (i + x.size + (2 + J.size)) F (stp any0 (j0, r)) (jointT t0 j0 ++ x) J f5 (by rw [show i + x.size + (2 + J.size) + x2.size = i + (x.size + (2 + J.size) + x2.size) by omega]; exact hF) (by omega)
          refine ⟨F', by rw [hzJ]; omega, ?_⟩
          rw [ruleF_go h6]
          unfold goOn at k2 ⊢
          rw [f3, if_pos hj, f4, k2]
          have hp : 0 < (jointT t0 j0 ++ x).size := by rw [ByteArray.size_append]; omega
          rw [hzJ, show i + x.size + (2 + J.size) + x2.size = i + (x.size + (2 + J.size) + x2.size) by omega, jointT_pos hp]
          simp only [ByteArray.append_assoc]
          rfl
      · rw [if_neg hj] at h
        split at h
        · injection h with h1 h2 h3
          refine ⟨x, r, [], by rw [← h3, e1], e2, e3, h2.symm, by simp, by simp, by simp, by simp, ?_⟩
          intro T i F any0 t0 j0 hH hF hf
          obtain ⟨F, rfl⟩ : ∃ F', F = F' + 1 := ⟨F - 1, by omega⟩
          refine ⟨F, by omega, ?_⟩
          rw [ruleF_go (e4 T i (jointT t0 j0) hH hF)]
          rfl
        · cases h
end Go.Proofs.YtgbemhehbhlgpaaGreatDoor
