/-
  Rules for numbers: a rule in memory; what holds while Parse reads.
-/
import Derived.Test.YtgbemhehbhlgpaaGreatDoorPlY
namespace Go.Proofs.YtgbemhehbhlgpaaGreatDoor
open Go.RowKit Go.PlainAid

/-- A function value that tells whether rows hold. -/
def HoldsIs (w : World) (f : Value) (rows : List (List Rl)) : Prop :=
  ∃ (g : Nat) (lb : Array Value), f = .func (.func g) #[] lb ∧ (∀ args w, (callFunc g args).run Tryz.prog w = .ok (.enter g args) w) ∧
    ∀ (W : World) (neg : Bool) (ds : ByteArray) (k : Nat), Below w.heap.size w W → PG W → rightB neg ds k = true → Calls Tryz.prog g (#[opsA ds k] ++ lb) W fun e w' => e = .returned (.bool (rowsH ds k rows)) ∧ Below W.heap.size W w'
/-- A rule: its text, and what tells whether it holds. -/
def RuleAt (w : World) (v : Value) (t : ByteArray) (rows : List (List Rl)) : Prop := ∃ b f, v = .pointer (some ⟨b, 0, none⟩) ∧ Blk w b #[.string t, f] ∧ HoldsIs w f rows
theorem HoldsIs.on {w w' : World} {f : Value} {rows : List (List Rl)} (h : HoldsIs w f rows) (hB : Below w.heap.size w w') : HoldsIs w' f rows := by
  obtain ⟨g, lb, h1, h2, h3⟩ := h
  exact ⟨g, lb, h1, h2, fun W neg ds k hW => h3 W neg ds k (hB.trans (hW.mono hB.size))⟩
theorem RuleAt.on {w w' : World} {v : Value} {t : ByteArray} {rows : List (List Rl)} (h : RuleAt w v t rows) (hB : Below w.heap.size w w') : RuleAt w' v t rows := by
  obtain ⟨b, f, h1, h2, h3⟩ := h
  exact ⟨b, f, h1, h2.on hB, h3.on hB⟩
/-- All blocks from one on are as they were. -/
def Up (lo : Nat) (w W : World) : Prop := w.heap.size ≤ W.heap.size ∧ ∀ k, lo ≤ k → k < w.heap.size → W.heap[k]? = w.heap[k]?
theorem Up.of {lo : Nat} {w W : World} (h : Below w.heap.size w W) : Up lo w W := ⟨h.size, fun k _ hk => h.block k hk⟩
theorem Up.trans {lo : Nat} {a b c : World} (h : Up lo a b) (k : Up lo b c) : Up lo a c := ⟨Nat.le_trans h.1 k.1, fun i h1 h2 => (k.2 i h1 (Nat.lt_of_lt_of_le h2 h.1)).trans (h.2 i h1 h2)⟩
theorem Up.mono {lo lo' : Nat} {w W : World} (h : Up lo w W) (hl : lo ≤ lo') : Up lo' w W := ⟨h.1, fun k h1 h2 => h.2 k (Nat.le_trans hl h1) h2⟩
theorem Up.fr {lo : Nat} {w W : World} (h : Up lo w W) : Fr lo w W := fun k o hk ho _ => by
  rw [h.2 k hk (lt_some ho)]
  exact ho
theorem Up.set {lo : Nat} {w : World} (p : Addr) (u : Value) (h : p.block < lo) : Up lo w (w.setCell p u) := ⟨by simp, fun k hk _ => by rw [Below.heap_setCell _ _ _ _ (by omega)]⟩
theorem Up.blk {lo b : Nat} {w W : World} {c : Array Value} (h : Up lo w W) (hk : Blk w b c) (hb : lo ≤ b) : Blk W b c := by
  obtain ⟨ty, hk⟩ := hk
  exact ⟨ty, (h.2 b hb (lt_some hk)).trans hk⟩
/-- The same of a rule whose blocks all lie at one or behind: it stays as it is whatever is stored below. -/
def HoldsOn (lo : Nat) (w : World) (f : Value) (rows : List (List Rl)) : Prop :=
  ∃ (g : Nat) (lb : Array Value), f = .func (.func g) #[] lb ∧ (∀ args w, (callFunc g args).run Tryz.prog w = .ok (.enter g args) w) ∧
    ∀ (W : World) (neg : Bool) (ds : ByteArray) (k : Nat), Up lo w W → PG W → rightB neg ds k = true → Calls Tryz.prog g (#[opsA ds k] ++ lb) W fun e w' => e = .returned (.bool (rowsH ds k rows)) ∧ Below W.heap.size W w'
def RuleOn (lo : Nat) (w : World) (v : Value) (t : ByteArray) (rows : List (List Rl)) : Prop := ∃ b f, v = .pointer (some ⟨b, 0, none⟩) ∧ lo ≤ b ∧ Blk w b #[.string t, f] ∧ HoldsOn lo w f rows
theorem RuleOn.is {lo : Nat} {w : World} {v : Value} {t : ByteArray} {rows : List (List Rl)} (h : RuleOn lo w v t rows) : RuleAt w v t rows := by
  obtain ⟨b, f, h1, _, h3, g, lb, h4, h5, h6⟩ := h
  exact ⟨b, f, h1, h3, g, lb, h4, h5, fun W neg ds k hW => h6 W neg ds k (.of hW)⟩
theorem RuleOn.up {lo : Nat} {w W : World} {v : Value} {t : ByteArray} {rows : List (List Rl)} (h : RuleOn lo w v t rows) (hU : Up lo w W) : RuleOn lo W v t rows := by
  obtain ⟨b, f, h1, h2, h3, g, lb, h4, h5, h6⟩ := h
  exact ⟨b, f, h1, h2, hU.blk h3 h2, g, lb, h4, h5, fun W neg ds k hW => h6 W neg ds k (hU.trans hW)⟩
/-- Rows whose blocks all lie at one or behind. -/
def AnyOn (lo : Nat) (w : World) (v : Value) (rows : List (List Rl)) : Prop :=
  ∃ xs : List (Option Addr × Nat × Nat), GAt RwE w v xs ∧ (∀ g, v.ownBlock = some g → lo ≤ g ∧ g < w.heap.size) ∧ xs.length = rows.length ∧
    ∀ i (hi : i < xs.length) (hr : i < rows.length), RowIs lo w (RwV xs[i]) rows[i] ∧ ∀ g, (RwV xs[i]).ownBlock = some g → lo ≤ g ∧ g < w.heap.size
theorem AQ.ison {lo ab base : Nat} {rows : List (List Rl)} {av : Value} {xs : List (Option Addr × Nat × Nat)} {w : World} (h : AQ lo ab rows av xs base w) : AnyOn lo w av rows := by
  refine ⟨xs, h.out.at', fun g hg => ⟨h.out.own g hg, h.out.lt g hg⟩, h.len, fun i hi hr => ?_⟩
  by_cases e : i + 1 = xs.length
  · obtain ⟨ys, k1, _, k3, k4⟩ := h.lst i hi hr e
    exact ⟨⟨ys, k1.at', k3, k4⟩, fun g hg => ⟨Nat.le_trans h.b1 (k1.own g hg), k1.lt g hg⟩⟩
  · obtain ⟨ys, k1, _, k3, k4⟩ := h.ini i hi hr (by omega)
    exact ⟨⟨ys, k1.at', k3, k4⟩, fun g hg => ⟨k1.own g hg, k1.lt g hg⟩⟩
theorem AnyOn.is {lo : Nat} {w W : World} {v : Value} {rows : List (List Rl)} (h : AnyOn lo w v rows) (hU : Up lo w W) : AnyIs lo W v rows := by
  obtain ⟨xs, h1, h2, h3, h4⟩ := h
  refine ⟨xs, h1.later hU.1 (fun g hg => hU.2 g (h2 g hg).1 (h2 g hg).2), h3, fun i hi hr => ?_⟩
  obtain ⟨⟨ys, k1, k2, k3⟩, k4⟩ := h4 i hi hr
  exact ⟨ys, k1.later hU.1 (fun g hg => hU.2 g (k4 g hg).1 (k4 g hg).2), k2, fun j hj hr => (k3 j hj hr).on hU.fr⟩
def ParseEnd (w0 : World) (s : ByteArray) (e : Ending) (w' : World) : Prop :=
  (match ruleP s with
    | .bad p => e = .returned (.tuple #[.pointer none, .agg #[.int .i64 250, .int .i64 p]])
    | .ok _ rows t => ∃ v, e = .returned (.tuple #[v, .agg #[.int .i64 0, .int .i64 0]]) ∧ RuleOn w0.heap.size w' v t rows) ∧ Below w0.heap.size w0 w'

theorem tk_step {s : ByteArray} {a : Nat} (ha : a ≤ s.size) : a + (tx s a).size ≤ nx s a ∧ nx s a ≤ s.size := ⟨by rw [tx_size ha]; exact nx_ge, nx_in ha⟩
theorem rngF_size {s : ByteArray} : ∀ (f a : Nat) (l : List (Nat × Nat)) (t : ByteArray) (p : Nat) (l' : List (Nat × Nat)) (t' : ByteArray), rngF s f a l t = .ok p l' t' → a ≤ s.size → t.size ≤ 3 * a → a + 1 ≤ p ∧ p ≤ s.size ∧ t'.size ≤ 3 * p
  | 0, a, l, t, p, l', t', h => by simp [rngF] at h
  | f + 1, a, l, t, p, l', t', h => by
    intro ha ht
    cases hn : numOf (tx s a) with
    | none => rw [rngF_none hn] at h; cases h
    | some n =>
      have hu := (numOf_dig hn).1
      obtain ⟨s1, s2⟩ := tk_step ha
      obtain ⟨q1, e1⟩ : ∃ q, nx s a = q := ⟨_, rfl⟩
      obtain ⟨U, eU⟩ : ∃ U, tx s a = U := ⟨_, rfl⟩
      rw [e1] at s1 s2
      rw [eU] at hu s1
      by_cases hd : tx s q1 = ⟨#[46, 46]⟩
      · obtain ⟨s3, s4⟩ := tk_step s2
        rw [hd, dot_size] at s3
        obtain ⟨q2, e2⟩ : ∃ q, nx s q1 = q := ⟨_, rfl⟩
        rw [e2] at s3 s4
        cases hm : numOf (tx s q2) with
        | none => rw [rngF_bad2 e1 e2 hn hd hm] at h; cases h
        | some m =>
          obtain ⟨s5, s6⟩ := tk_step s4
          obtain ⟨q3, e3⟩ : ∃ q, nx s q2 = q := ⟨_, rfl⟩
          obtain ⟨V, eV⟩ : ∃ V, tx s q2 = V := ⟨_, rfl⟩
          rw [e3] at s5 s6
          rw [eV] at s5
          have hsz : (t ++ U ++ (⟨#[46, 46]⟩ ++ V)).size = t.size + U.size + (2 + V.size) := by rw [ByteArray.size_append, ByteArray.size_append, dots_app]
          by_cases hc : tx s q3 = ⟨#[44]⟩
          · obtain ⟨s7, s8⟩ := tk_step s6
            rw [hc] at s7
            have s7 : q3 + 1 ≤ nx s q3 := s7
            obtain ⟨q4, e4⟩ : ∃ q, nx s q3 = q := ⟨_, rfl⟩
            rw [e4] at s7 s8
            rw [rngF_a e1 e2 e3 hn hd hm hc, eU, eV, e4] at h
            have ih := rngF_size f q4 _ _ p l' t' h s8 (by rw [app_comma, hsz]; omega)
            omega
          · rw [rngF_b e1 e2 e3 hn hd hm hc, eU, eV] at h
            injection h with h1 h2 h3
            rw [← h3, hsz]
            omega
      · by_cases hc : tx s q1 = ⟨#[44]⟩
        · obtain ⟨s7, s8⟩ := tk_step s2
          rw [hc] at s7
          have s7 : q1 + 1 ≤ nx s q1 := s7
          obtain ⟨q4, e4⟩ : ∃ q, nx s q1 = q := ⟨_, rfl⟩
          rw [e4] at s7 s8
          rw [rngF_c e1 hn hd hc, eU, e4] at h
          have ih := rngF_size f q4 _ _ p l' t' h s8 (by rw [app_comma, ByteArray.size_append]; omega)
          omega
        · rw [rngF_d e1 hn hd hc, eU] at h
          injection h with h1 h2 h3
          rw [← h3, ByteArray.size_append]
          omega
theorem relT_size {s : ByteArray} {o : Int} {b a : Nat} {t : ByteArray} {p : Nat} {r : Rl} {t' : ByteArray} (h : relT s o b a t = .ok p r t') (ha : a ≤ s.size) (ht : t.size ≤ 3 * a) : a + 1 ≤ p ∧ p ≤ s.size ∧ t'.size ≤ 3 * p := by
  obtain ⟨s1, s2⟩ := tk_step ha
  obtain ⟨q1, e1⟩ : ∃ q, nx s a = q := ⟨_, rfl⟩
  obtain ⟨U, eU⟩ : ∃ U, tx s a = U := ⟨_, rfl⟩
  rw [e1] at s1 s2
  rw [eU] at s1
  by_cases hs : U = ⟨#[61]⟩ ∨ U = ⟨#[33, 61]⟩
  · have hu : 1 ≤ U.size := by rcases hs with e | e <;> rw [e] <;> decide
    rw [relT_yes e1 eU hs rfl] at h
    cases hr : rngF s (s.size - q1 + 1) q1 [] (t ++ (⟨#[32]⟩ ++ U ++ ⟨#[32]⟩)) with
    | bad q => rw [hr] at h; cases h
    | ok q l t1 =>
      rw [hr] at h
      simp only at h
      injection h with h1 h2 h3
      have ih := rngF_size _ _ _ _ _ _ _ hr s2 (by rw [ByteArray.size_append, bl_app]; omega)
      rw [← h1, ← h3]
      omega
  · rw [relT_no eU (fun e => hs (.inl e)) (fun e => hs (.inr e))] at h
    cases h
theorem relR_size {s : ByteArray} {a : Nat} {t : ByteArray} {p : Nat} {r : Rl} {t' : ByteArray} (h : relR s a t = .ok p r t') (ha : a ≤ s.size) (ht : t.size ≤ 3 * a) : a + 1 ≤ p ∧ p ≤ s.size ∧ t'.size ≤ 3 * p := by
  cases ho : opOf (tx s a) with
  | none => rw [relR_none ho] at h; cases h
  | some o =>
    have hu := (opOf_low ho).1
    obtain ⟨s1, s2⟩ := tk_step ha
    obtain ⟨q1, e1⟩ : ∃ q, nx s a = q := ⟨_, rfl⟩
    obtain ⟨U, eU⟩ : ∃ U, tx s a = U := ⟨_, rfl⟩
    rw [e1] at s1 s2
    rw [eU] at s1 hu
    by_cases h37 : tx s q1 = ⟨#[37]⟩
    · obtain ⟨s3, s4⟩ := tk_step s2
      rw [h37] at s3
      have s3 : q1 + 1 ≤ nx s q1 := s3
      obtain ⟨q2, e2⟩ : ∃ q, nx s q1 = q := ⟨_, rfl⟩
      rw [e2] at s3 s4
      cases hm : numOf (tx s q2) with
      | none => rw [relR_bad e1 e2 ho h37 hm] at h; cases h
      | some m =>
        obtain ⟨s5, s6⟩ := tk_step s4
        obtain ⟨q3, e3⟩ : ∃ q, nx s q2 = q := ⟨_, rfl⟩
        obtain ⟨V, eV⟩ : ∃ V, tx s q2 = V := ⟨_, rfl⟩
        rw [e3] at s5 s6
        rw [eV] at s5
        rw [relR_by e1 e2 e3 ho h37 hm, eU, eV] at h
        have ih := relT_size h s6 (by rw [ByteArray.size_append, ByteArray.size_append, pc_app]; omega)
        omega
    · rw [relR_no e1 ho h37, eU] at h
      have ih := relT_size h s2 (by rw [ByteArray.size_append]; omega)
      omega

/-- What holds at the head of Parse's loop. -/
structure LP (w0 : World) (s : ByteArray) (a : Nat) (t : ByteArray) (rows : List (List Rl)) (av : Value) (xs : List (Option Addr × Nat × Nat)) (base : Nat) (w : World) : Prop where
  rs : RS w0 w (w0.heap.size + 1) (w0.heap.size + 1 + 1) s a t [] (.slice none 0 0) [] w
  aq : AQ (w0.heap.size + 1 + 1 + 1 + 1) (w0.heap.size + 1 + 1 + 1) rows av xs base w
  sp : w.heap[w0.heap.size]? = some (.cells #[.int .i64 0, .int .i64 0] 53 (0, 0))
  z1 : t.size ≤ 3 * a
  z2 : rows.length ≤ a
  z3 : ∀ r ∈ rows, r.length ≤ a
theorem RS.now {w0 wS : World} {sb bb : Nat} {s : ByteArray} {a : Nat} {t : ByteArray} {own : List (Nat × Array Value × TypeId)} {rv : Value} {rl : List (Nat × Nat)} {w : World} (h : RS w0 wS sb bb s a t own rv rl w) : RS w0 w sb bb s a t [] (.slice none 0 0) [] w :=
  ⟨h.sc, h.bld, h.bel, KP.refl _ _ _, fun x hx => absurd hx (by simp), GRow.nil _ _ _, h.pg, h.o1, h.o2, by have := h.o3; have := h.o5; omega, Nat.le_refl _, h.ain, h.sin⟩
theorem LP.kp {w0 : World} {s : ByteArray} {a a' : Nat} {t t' : ByteArray} {rows : List (List Rl)} {av : Value} {xs : List (Option Addr × Nat × Nat)} {base : Nat} {w w' : World} (h : LP w0 s a t rows av xs base w) {own : List (Nat × Array Value × TypeId)} {rv : Value} {rl : List (Nat × Nat)} {wS : World} (hr : RS w0 wS (w0.heap.size + 1) (w0.heap.size + 1 + 1) s a' t' own rv rl w')
    (hk : KP (w0.heap.size + 1) (w0.heap.size + 1 + 1) w w') (hz : w.heap.size ≤ w'.heap.size) (z1 : t'.size ≤ 3 * a') (ha : a ≤ a') : LP w0 s a' t' rows av xs base w' :=
  ⟨hr.now, h.aq.kp hk hz (by omega) (by omega) (by omega) (by omega), hk _ _ h.sp (by omega) (by omega) (fun c fz e => absurd (show 53 = 5 by injection e) (by decide)), z1, Nat.le_trans h.z2 ha, fun r hr' => Nat.le_trans (h.z3 r hr') ha⟩
theorem LP.on {w0 : World} {s : ByteArray} {a : Nat} {t : ByteArray} {rows : List (List Rl)} {av : Value} {xs : List (Option Addr × Nat × Nat)} {base : Nat} {w w' : World} (h : LP w0 s a t rows av xs base w) (hB : Below w.heap.size w w') : LP w0 s a t rows av xs base w' :=
  h.kp (h.rs.on hB) (.of hB) hB.size h.z1 (Nat.le_refl _)
/-- Every block but one stands, if it lies below a mark or is no row of tests and no row of such rows. -/
def KT (lo ab : Nat) (w w' : World) : Prop := ∀ k o, w.heap[k]? = some o → k ≠ ab → (k < lo ∨ ∀ c fz, o ≠ .cells c 74 fz ∧ o ≠ .cells c 104 fz) → w'.heap[k]? = some o
theorem KT.trans {lo ab : Nat} {a b c : World} (h : KT lo ab a b) (k : KT lo ab b c) : KT lo ab a c := fun i o hi h1 h2 => k i o (h i o hi h1 h2) h1 h2
theorem KT.grown {α : Type} {E : ETy α} {lo ab base : Nat} {w w' : World} {v : Value} {l : List α} (hr : GRow E base w v l) (hb : lo ≤ base) (hg : w.grownBy w' v.ownBlock) (hE : E.T = 74 ∨ E.T = 104) : KT lo ab w w' := fun k o ho _ hn => by
  rw [hg.block k (lt_some ho) (fun e => ?_)]
  · exact ho
  · rcases hn with hn | hn
    · have := hr.own k e.symm; omega
    · obtain ⟨c, hc⟩ := hr.kind k e.symm
      rw [ho] at hc
      injection hc with hc
      rcases hE with hE | hE
      · rw [hE] at hc; exact (hn c (0, 0)).1 hc
      · rw [hE] at hc; exact (hn c (0, 0)).2 hc
theorem KT.set {lo ab : Nat} {w : World} (i : Nat) (u : Value) : KT lo ab w (w.setCell ⟨ab, i, none⟩ u) := fun k _ ho hk _ => by
  rw [Below.heap_setCell _ _ _ _ hk]
  exact ho
theorem KT.setRow {lo ab ob : Nat} {w : World} {c : Array Value} {fz : Nat × Nat} (hb : lo ≤ ob) (hc : w.heap[ob]? = some (.cells c 104 fz)) (i : Nat) (u : Value) : KT lo ab w (w.setCell ⟨ob, i, none⟩ u) := fun k _ ho _ hn => by
  rw [Below.heap_setCell _ _ _ _ (fun e => ?_)]
  · exact ho
  · have e : k = ob := e
    subst e
    rcases hn with hn | hn
    · omega
    · rw [ho] at hc
      injection hc with hc
      exact (hn c fz).2 hc
theorem RS.kt {w0 wS : World} {sb bb lo ab : Nat} {s : ByteArray} {a : Nat} {t : ByteArray} {own : List (Nat × Array Value × TypeId)} {rv : Value} {rl : List (Nat × Nat)} {w w' : World} (h : RS w0 wS sb bb s a t own rv rl w) (hK : KT lo ab w w') (h1 : sb < lo) (h3 : sb ≠ ab) (h4 : ab < bb ∨ bb < ab) (h5 : bb < lo) (hab : ∀ c fz, w.heap[ab]? ≠ some (.cells c 5 fz)) (hB : Below w0.heap.size w w') (hz : w.heap.size ≤ w'.heap.size) :
    RS w0 w' sb bb s a t [] (.slice none 0 0) [] w' := by
  have q1 := h.o1; have q2 := h.o2; have q3 := h.o3; have q5 := h.o5
  refine ⟨?_, ?_, h.bel.trans hB, KP.refl _ _ _, fun x hx => absurd hx (by simp), GRow.nil _ _ _, h.pg, h.o1, h.o2, by omega, Nat.le_refl _, h.ain, h.sin⟩
  · obtain ⟨T, hT⟩ := h.sc
    exact ⟨T, hK _ _ hT h3 (.inl h1)⟩
  · have key : ∀ p, BldAt bb bb p (tc t) w → BldAt bb bb p (tc t) w' := by
      rintro p ⟨k1, v, k2, k3, k4⟩
      refine ⟨k1, v, hK _ _ k2 (by omega) (.inl h5), ?_, k4⟩
      obtain ⟨m1, m2⟩ := k3
      refine ⟨m1, ?_⟩
      rcases m2 with m2 | ⟨g, cap, cur, hv, hg, hh, r⟩
      · exact .inl m2
      · refine .inr ⟨g, cap, cur, hv, hg, hK _ _ hh (fun e => hab _ _ (by rw [← e]; exact hh)) (.inr fun c fz => ⟨fun e => absurd (show 5 = 74 by injection e) (by decide), fun e => absurd (show 5 = 104 by injection e) (by decide)⟩), r⟩
    rcases h.bld with hb | hb
    · exact .inl (key _ hb)
    · exact .inr (key _ hb)
theorem putRow_set {R : List (List Rl)} {m : Nat} {r : Rl} (h : R.length = m + 1) : putRow R r = R.set m (R[m]'(by omega) ++ [r]) := by
  unfold putRow
  have hne : R ≠ [] := fun e => by rw [e] at h; cases h
  have hl : R.getLastD [] = R[m]'(by omega) := by
    rw [List.getLastD_eq_getLast?, List.getLast?_eq_getElem?]
    have e : R[R.length - 1]? = some (R[m]'(by omega)) := by
      rw [List.getElem?_eq_getElem (by omega)]
      congr 1
      have : R.length - 1 = m := by omega
      simp only [this]
    rw [e]
    rfl
  rw [hl]
  apply List.ext_getElem
  · simp [h]
  · intro i h1 h2
    have h3 : i < m + 1 := by simpa [h] using h2
    by_cases e : i = m
    · subst e
      rw [List.getElem_set_self, List.getElem_append_right (by simp [h])]
      simp [h]
    · rw [List.getElem_set_ne (by omega), List.getElem_append_left (by simp [h]; omega), List.getElem_dropLast]
/-- A store into a block below the mark. -/
theorem AQ.set {lo ab base : Nat} {rows : List (List Rl)} {av : Value} {xs : List (Option Addr × Nat × Nat)} {w : World} (h : AQ lo ab rows av xs base w) (b i : Nat) (u : Value) (h1 : b < lo) (h2 : b ≠ ab) : AQ lo ab rows av xs base (w.setCell ⟨b, i, none⟩ u) := by
  have ho : ∀ k, k ≠ b → (w.setCell ⟨b, i, none⟩ u).heap[k]? = w.heap[k]? := fun k hk => Below.heap_setCell _ _ _ _ hk
  have hs : (w.setCell ⟨b, i, none⟩ u).heap.size = w.heap.size := by simp [World.setCell]
  have hb1 := h.b1
  have hrow : ∀ {b0 b1 : Nat} {v : Value} {rs : List Rl}, lo ≤ b0 → RowO lo b0 b1 w v rs → RowO lo b0 b1 (w.setCell ⟨b, i, none⟩ u) v rs := by
    intro b0 b1 v rs hb hr
    refine hr.keep (Fr.set _ _ h1) (fun g hg => ?_) (Nat.le_refl _)
    obtain ⟨ys, k1, _⟩ := hr
    have := k1.own g hg
    exact ho g (by omega)
  exact ⟨(ho ab (fun e => h2 e.symm)).trans h.cell, h.out.later fun g hg => ho g (by have := h.out.own g hg; omega), h.len, h.b1, by rw [hs]; exact h.b2, h.abl, fun k hk hr hl => hrow (Nat.le_refl _) (h.ini k hk hr hl), fun k hk hr hl => by rw [hs]; exact hrow hb1 (h.lst k hk hr hl)⟩
theorem row_ne {base ob : Nat} {w : World} {v : Value} {ys : List (Nat × Array Value)} {co : Array Value} (h : GRow TsE base w v ys) (hob : w.heap[ob]? = some (.cells co RwE.T (0, 0))) : v.ownBlock ≠ some ob := fun e => by
  obtain ⟨c2, hc2⟩ := h.kind ob e
  rw [hob] at hc2
  injection hc2 with hc2
  injection hc2 with _ hc2
  exact absurd hc2 (by decide)
theorem cell_same {w w' : World} {b i : Nat} (h : w'.heap[b]? = w.heap[b]?) : w'.cell? ⟨b, i, none⟩ = w.cell? ⟨b, i, none⟩ := by simp only [World.cell?, h]
theorem grown_size {w w' : World} {r : Option Nat} (hg : w.grownBy w' r) : w.heap.size ≤ w'.heap.size := hg.size
/-- An empty row put behind. -/
theorem LP.row {w0 : World} {s : ByteArray} {a : Nat} {t : ByteArray} {rows : List (List Rl)} {av av' : Value} {xs : List (Option Addr × Nat × Nat)} {base : Nat} {w w' : World} (h : LP w0 s a t rows av xs base w) (hr : GRow RwE (w0.heap.size + 1 + 1 + 1 + 1) w' av' (xs ++ [(none, 0, 0)])) (hg : w.grownBy w' av.ownBlock) (hz : rows.length + 1 ≤ a) :
    LP w0 s a t (rows ++ [[]]) av' (xs ++ [(none, 0, 0)]) w'.heap.size (w'.setCell ⟨(w0.heap.size + 1 + 1 + 1), 0, none⟩ av') ∧ Fr (w0.heap.size + 1 + 1 + 1 + 1) w (w'.setCell ⟨(w0.heap.size + 1 + 1 + 1), 0, none⟩ av') := by
  have hzz : w.heap.size ≤ w'.heap.size := hg.size
  have hs : (w'.setCell ⟨(w0.heap.size + 1 + 1 + 1), 0, none⟩ av').heap.size = w'.heap.size := by simp [World.setCell]
  have hK : KT (w0.heap.size + 1 + 1 + 1 + 1) (w0.heap.size + 1 + 1 + 1) w (w'.setCell ⟨(w0.heap.size + 1 + 1 + 1), 0, none⟩ av') := (KT.grown h.aq.out (Nat.le_refl _) hg (.inr rfl)).trans (KT.set 0 av')
  have hB : Below w0.heap.size w (w'.setCell ⟨(w0.heap.size + 1 + 1 + 1), 0, none⟩ av') := ((grown_below hg (by have := h.aq.b1; have := h.aq.b2; omega) h.aq.out.own).mono (by omega)).setCell (p := ⟨(w0.heap.size + 1 + 1 + 1), 0, none⟩) (by simp only; omega) av'
  refine ⟨⟨h.rs.kt hK (by omega) (by omega) (.inr (by omega)) (by omega) (fun c fz e => ?_) hB (by omega), h.aq.row hr hg hzz, hK _ _ h.sp (by omega) (.inl (by omega)), h.z1, by rw [List.length_append, one_len]; exact hz, fun r hr' => ?_⟩, (Fr.grown h.aq.out hg (.inr rfl)).trans (Fr.set _ _ (by simp only; omega))⟩
  · rw [h.aq.cell] at e
    injection e with e
    injection e with _ e
    exact absurd e (by decide)
  · rcases List.mem_append.1 hr' with hr' | hr'
    · exact h.z3 r hr'
    · rw [List.mem_singleton.1 hr']
      exact Nat.zero_le _
/-- A test put behind the last row. -/
theorem LP.put {w0 : World} {s : ByteArray} {a : Nat} {t : ByteArray} {rows : List (List Rl)} {rs : List Rl} {av : Value} {xs : List (Option Addr × Nat × Nat)} {base ob n cap : Nat} {w w' : World} (h : LP w0 s a t rows av xs base w) (j : Nat) (hj : j + 1 = xs.length) (hjr : j < rows.length) (hrs : rows[j] = rs) (x x' : Option Addr × Nat × Nat) (hx : xs[j]'(by omega) = x)
    (ys : List (Nat × Array Value)) (y : Nat × Array Value) (r : Rl) (hys : ys.length = rs.length) (hasks : ∀ i (hi : i < ys.length) (hr : i < rs.length), Asks (w0.heap.size + 1 + 1 + 1 + 1) w (TsV ys[i]) (fun ds k => rlH ds k rs[i])) (hold : GRow TsE base w (RwV x) ys)
    (hnew : GRow TsE base w' (RwV x') (ys ++ [y])) (hg : w.grownBy w' (RwV x).ownBlock) (hy : Asks (w0.heap.size + 1 + 1 + 1 + 1) w (TsV y) (fun ds k => rlH ds k r)) (hav : av = .slice (some ⟨ob, 0, none⟩) n cap) (hz : rs.length + 1 ≤ a) :
    LP w0 s a t (rows.set j (rs ++ [r])) av (xs.set j x') base (w'.setCell ⟨ob, j, none⟩ (RwV x')) := by
  have hzz : w.heap.size ≤ w'.heap.size := hg.size
  have hobk : av.ownBlock = some ob := by rw [hav]; rfl
  have hoblo := h.aq.out.own ob hobk
  obtain ⟨co, hco⟩ := h.aq.out.kind ob hobk
  have hs : (w'.setCell ⟨ob, j, none⟩ (RwV x')).heap.size = w'.heap.size := by simp [World.setCell]
  have hob' : w'.heap[ob]? = some (.cells co RwE.T (0, 0)) := by
    rw [hg.block ob (lt_some hco) (fun e => ?_)]
    · exact hco
    · obtain ⟨c2, hc2⟩ := hold.kind ob e.symm
      rw [hco] at hc2
      injection hc2 with hc2
      injection hc2 with _ hc2
      exact absurd hc2 (by decide)
  have hK : KT (w0.heap.size + 1 + 1 + 1 + 1) (w0.heap.size + 1 + 1 + 1) w (w'.setCell ⟨ob, j, none⟩ (RwV x')) := (KT.grown hold h.aq.b1 hg (.inl rfl)).trans (KT.setRow hoblo hob' j (RwV x'))
  have hB : Below w0.heap.size w (w'.setCell ⟨ob, j, none⟩ (RwV x')) := ((grown_below hg h.aq.b2 hold.own).mono (by have := h.aq.b1; omega)).setCell (p := ⟨ob, j, none⟩) (by simp only; omega) _
  have hy' : Asks (w0.heap.size + 1 + 1 + 1 + 1) w' (TsV y) (fun ds k => rlH ds k r) := hy.on (Fr.grown hold hg (.inl rfl))
  refine ⟨h.rs.kt hK (by omega) (by omega) (.inr (by omega)) (by omega) (fun c fz e => ?_) hB (by omega), h.aq.put j hj hjr hrs x x' hx ys y r hys hasks hold hnew hg hzz hy' hav, hK _ _ h.sp (by omega) (.inl (by omega)), h.z1, by rw [List.length_set]; exact h.z2, fun r' hr' => ?_⟩
  · rw [h.aq.cell] at e
    injection e with e
    injection e with _ e
    exact absurd e (by decide)
  · rcases List.mem_or_eq_of_mem_set hr' with hr' | rfl
    · exact h.z3 r' hr'
    · rw [List.length_append, one_len]
      exact hz
end Go.Proofs.YtgbemhehbhlgpaaGreatDoor
