/-
  Rules for numbers: the walk of a relation, the pass from its label.
-/
import Derived.Test.YtgbemhehbhlgpaaGreatDoorPlQ
import Derived.ScopeJumps
namespace Go.Proofs.YtgbemhehbhlgpaaGreatDoor
open Go.RowKit Go.PlainAid

theorem map_range (t : Array Value) (n : Nat) (h : t.size = n) : t = ((List.range n).map fun k => t.getD k undef).toArray := by
  apply Array.ext
  · simp [h]
  · intro i h1 h2
    simp [Array.getD, h1]
theorem lit123 (t : Array Value) (h : t.size = 123) : ∃ f : Nat → Value, (∀ k, t.getD k undef = f k) ∧ t = #[f 0, f 1, f 2, f 3, f 4, f 5, f 6, f 7, f 8, f 9, f 10, f 11, f 12, f 13, f 14, f 15, f 16, f 17, f 18, f 19, f 20, f 21, f 22, f 23, f 24, f 25, f 26, f 27, f 28, f 29, f 30, f 31, f 32, f 33, f 34, f 35, f 36, f 37, f 38, f 39, f 40, f 41, f 42, f 43, f 44, f 45, f 46, f 47, f 48, f 49, f 50, f 51, f 52, f 53, f 54, f 55, f 56, f 57, f 58, f 59, f 60, f 61, f 62, f 63, f 64, f 65, f 66, f 67, f 68, f 69, f 70, f 71, f 72, f 73, f 74, f 75, f 76, f 77, f 78, f 79, f 80, f 81, f 82, f 83, f 84, f 85, f 86, f 87, f 88, f 89, f 90, f 91, f 92, f 93, f 94, f 95, f 96, f 97, f 98, f 99, f 100, f 101, f 102, f 103, f 104, f 105, f 106, f 107, f 108, f 109, f 110, f 111, f 112, f 113, f 114, f 115, f 116, f 117, f 118, f 119, f 120, f 121, f 122] :=
  ⟨fun k => t.getD k undef, fun _ => rfl, map_range t 123 h⟩
theorem tl_yes {X : ByteArray} {l : List UInt8} (h : X = ⟨l.toArray⟩) : (X.toList == l) = true := by
  rw [h, Lib.toList_data]
  simp
theorem tl_no {X : ByteArray} {l : List UInt8} (h : X ≠ ⟨l.toArray⟩) : (X.toList == l) = false := by
  rw [Lib.toList_data]
  simp only [beq_eq_false_iff_ne, ne_eq]
  intro g
  refine h ?_
  apply ByteArray.ext
  rw [← g]
theorem numOf_val {u : ByteArray} {n : Nat} (h : numOf u = some n) : digs n = u ∧ n < 1000000000 := by
  unfold numOf at h
  by_cases g : 1 ≤ u.size ∧ u.size ≤ 9 ∧ (∀ i, i < u.size → bDg (bt u i) = true) ∧ ¬ (1 < u.size ∧ bt u 0 = 48)
  · rw [if_pos g] at h
    have e := Option.some.inj h
    rw [← e]
    exact ⟨digs_of (fun k hk => of_decide_eq_true (g.2.2.1 k hk)) (by omega) (fun g1 g2 => g.2.2.2 ⟨g1, g2⟩), (int_digs g.2.2.1 g.1 g.2.1).2⟩
  · rw [if_neg g] at h
    cases h

/-- What holds when a relation has been read, or refused. -/
def RelEnd (w0 wS : World) (sb bb : Nat) (s : ByteArray) (R : Pr Rl) (e : Ending) (w' : World) : Prop :=
  (∃ p, R = .bad p ∧ e = .returned (.tuple #[.nilFunc, .bool false]) ∧ Sc w' sb s p (tx s p) ∧ Below w0.heap.size w0 w' ∧ KP sb bb wS w') ∨
  (∃ p r t' f, R = .ok p r t' ∧ e = .returned (.tuple #[f, .bool true]) ∧ Sc w' sb s p (tx s p) ∧ IsBld bb bb (tc t') w' ∧ Below w0.heap.size w0 w' ∧ KP sb bb wS w' ∧ wS.heap.size ≤ w'.heap.size ∧ Asks wS.heap.size w' f (fun ds k => rlH ds k r))

/-- The blocks of a relation's own: what asks, by what, whether turned, the ranges. -/
abbrev own4 (ab yb nb lb : Nat) (o : Int) (b : Nat) (nt : Bool) (rv : Value) : List (Nat × Array Value × TypeId) :=
  [(ab, #[.func (.func (opFn o)) #[] #[]], 126), (yb, #[.int .i64 b], 2), (nb, #[.bool nt], 4), (lb, #[rv], 129)]
abbrev relF (ab yb nb lb : Nat) : Value := .func (.func 67) #[] #[.pointer (some ⟨ab, 0, none⟩), .pointer (some ⟨yb, 0, none⟩), .pointer (some ⟨lb, 0, none⟩), .pointer (some ⟨nb, 0, none⟩)]
theorem RS.asks {w0 wS : World} {sb bb : Nat} {s : ByteArray} {a : Nat} {t : ByteArray} {rv : Value} {rl : List (Nat × Nat)} {w : World} {ab yb nb lb : Nat} {o : Int} {b : Nat} {nt : Bool}
    (h : RS w0 wS sb bb s a t (own4 ab yb nb lb o b nt rv) rv rl w) (ho : isOp o) (hb : b < 1000000000) (hrs : ∀ r ∈ rl, r.1 < 1000000000 ∧ r.2 < 1000000000) (hl : rl.length ≤ 100000000) :
    Asks wS.heap.size w (relF ab yb nb lb) (fun ds k => rlH ds k ⟨o, b, nt, rl⟩) := by
  refine ⟨_, _, rfl, enters_of Tryz.func67 (by kernel_rfl) rfl, fun W neg ds k hF hP hr => ?_⟩
  have hk : ∀ (q : Nat) (cs : Array Value) (T : TypeId), (q, cs, T) ∈ own4 ab yb nb lb o b nt rv → T ≠ 5 ∧ T ≠ 74 ∧ T ≠ 104 → Blk W q cs := by
    intro q cs T hx hT
    obtain ⟨h1, h2, _⟩ := h.mem _ hx
    exact ⟨_, hF _ _ h2 h1 (fun c fz => ⟨fun e => hT.1 (by injection e), fun e => hT.2.1 (by injection e), fun e => hT.2.2 (by injection e)⟩)⟩
  have hrow : GRow SpE wS.heap.size W rv rl := h.row.later fun g hg => by
    obtain ⟨c, hc⟩ := h.row.kind g hg
    rw [hF g _ (h.row.own g hg) hc (fun c' fz => ⟨fun e => absurd (show SpE.T = _ by injection e) (by decide), fun e => absurd (show SpE.T = _ by injection e) (by decide), fun e => absurd (show SpE.T = _ by injection e) (by decide)⟩), hc]
  exact rel1_any hr o b nt rl rv ab yb lb nb W ho hb hrs hl (hk ab _ 126 (by simp) (by decide)) (hk yb _ 2 (by simp) (by decide)) (hk lb _ 129 (by simp) (by decide)) (hk nb _ 4 (by simp) (by decide)) hrow.at' hP
theorem RS.weak {w0 wS : World} {sb bb : Nat} {s : ByteArray} {a : Nat} {t : ByteArray} {own own' : List (Nat × Array Value × TypeId)} {rv : Value} {rl : List (Nat × Nat)} {w : World} (h : RS w0 wS sb bb s a t own rv rl w) (ho : ∀ x ∈ own', x ∈ own) : RS w0 wS sb bb s a t own' rv rl w :=
  { h with mem := fun x hx => h.mem x (ho x hx) }

noncomputable def inScope : Code → Code
  | .scope c => c
  | .seq _ c => inScope c
  | c => c
noncomputable def rlCode : Code := inScope (Tryz.f41.body.getD .skip)
/-- What holds at the label. -/
def RJ (w0 wS : World) (sb bb : Nat) (s : ByteArray) (R : Pr Rl) (a : Act) (w : World) : Prop :=
  ∃ (p : Nat) (t : ByteArray) (rv : Value) (rl : List (Nat × Nat)) (fu ab yb nb lb : Nat) (o : Int) (b : Nat) (nt : Bool),
    a.defers = [] ∧ a.tmps.size = 123 ∧ a.tmps.getD 0 undef = .pointer (some ⟨sb, 0, none⟩) ∧ a.tmps.getD 1 undef = .pointer (some ⟨bb, 0, none⟩) ∧ a.tmps.getD 6 undef = .pointer (some ⟨ab, 0, none⟩) ∧ a.tmps.getD 7 undef = .pointer (some ⟨yb, 0, none⟩) ∧
    a.tmps.getD 10 undef = .pointer (some ⟨nb, 0, none⟩) ∧ a.tmps.getD 11 undef = .pointer (some ⟨lb, 0, none⟩) ∧
    RS w0 wS sb bb s p t (own4 ab yb nb lb o b nt rv) rv rl w ∧ ab < yb ∧ yb < nb ∧ nb < lb ∧ isOp o ∧ b < 1000000000 ∧ (∀ r ∈ rl, r.1 < 1000000000 ∧ r.2 < 1000000000) ∧ rl.length ≤ p ∧ t.size ≤ 3 * p ∧ s.size - p < fu ∧
    R = (match rngF s fu p rl t with | .bad q => .bad q | .ok q l t' => .ok q ⟨o, b, nt, l⟩ t')
/-- How far the scanner is. -/
def RM (sb : Nat) (s : ByteArray) (_ : Act) (w : World) : Nat := match w.cell? ⟨sb, 1, none⟩ with | some (.int _ i) => s.size - i.toNat | _ => 0

theorem GRow.form' {α : Type} {E : ETy α} {base : Nat} {w : World} {v : Value} {l : List α} (h : GRow E base w v l) : ∃ a n c, v = .slice a n c := by
  obtain ⟨a, c, h⟩ := h.form
  exact ⟨_, _, _, h⟩
theorem dot_size : (⟨#[46, 46]⟩ : ByteArray).size = 2 := rfl
theorem dots_app (X : ByteArray) : ((⟨#[46, 46]⟩ : ByteArray) ++ X).size = 2 + X.size := by rw [ByteArray.size_append]; rfl
theorem app_comma (X : ByteArray) : (X ++ (⟨#[44]⟩ : ByteArray)).size = X.size + 1 := by rw [ByteArray.size_append]; rfl
theorem comma_le : (⟨#[44]⟩ : ByteArray).size ≤ 1 := Nat.le_refl 1
theorem one_len {α : Type} (x : α) : [x].length = 1 := rfl
theorem rngF_none {T : ByteArray} {F a : Nat} {l : List (Nat × Nat)} {t : ByteArray} (h1 : numOf (tx T a) = none) : rngF T (F + 1) a l t = .bad a := by rw [rngF, h1]
theorem rngF_bad2 {T : ByteArray} {F a n q1 q2 : Nat} {l : List (Nat × Nat)} {t : ByteArray} (e1 : nx T a = q1) (e2 : nx T q1 = q2) (h1 : numOf (tx T a) = some n) (h2 : tx T q1 = ⟨#[46, 46]⟩) (h3 : numOf (tx T q2) = none) : rngF T (F + 1) a l t = .bad q2 := by
  subst e1 e2
  rw [rngF, h1]
  simp only
  rw [if_pos h2, h3]
theorem rngF_a {T : ByteArray} {F a n m q1 q2 q3 : Nat} {l : List (Nat × Nat)} {t : ByteArray} (e1 : nx T a = q1) (e2 : nx T q1 = q2) (e3 : nx T q2 = q3) (h1 : numOf (tx T a) = some n) (h2 : tx T q1 = ⟨#[46, 46]⟩) (h3 : numOf (tx T q2) = some m) (h4 : tx T q3 = ⟨#[44]⟩) :
    rngF T (F + 1) a l t = rngF T F (nx T q3) (l ++ [(n, m)]) (t ++ tx T a ++ (⟨#[46, 46]⟩ ++ tx T q2) ++ ⟨#[44]⟩) := by
  subst e1 e2 e3
  exact Go.Proofs.YtgbemhehbhlgpaaGreatDoor.rngF_a0 h1 h2 h3 h4
theorem rngF_b {T : ByteArray} {F a n m q1 q2 q3 : Nat} {l : List (Nat × Nat)} {t : ByteArray} (e1 : nx T a = q1) (e2 : nx T q1 = q2) (e3 : nx T q2 = q3) (h1 : numOf (tx T a) = some n) (h2 : tx T q1 = ⟨#[46, 46]⟩) (h3 : numOf (tx T q2) = some m) (h4 : tx T q3 ≠ ⟨#[44]⟩) :
    rngF T (F + 1) a l t = .ok q3 (l ++ [(n, m)]) (t ++ tx T a ++ (⟨#[46, 46]⟩ ++ tx T q2)) := by
  subst e1 e2 e3
  exact Go.Proofs.YtgbemhehbhlgpaaGreatDoor.rngF_b0 h1 h2 h3 h4
theorem rngF_c {T : ByteArray} {F a n q1 : Nat} {l : List (Nat × Nat)} {t : ByteArray} (e1 : nx T a = q1) (h1 : numOf (tx T a) = some n) (h2 : tx T q1 ≠ ⟨#[46, 46]⟩) (h4 : tx T q1 = ⟨#[44]⟩) :
    rngF T (F + 1) a l t = rngF T F (nx T q1) (l ++ [(n, n)]) (t ++ tx T a ++ ⟨#[44]⟩) := by
  subst e1
  exact Go.Proofs.YtgbemhehbhlgpaaGreatDoor.rngF_c0 h1 h2 h4
theorem rngF_d {T : ByteArray} {F a n q1 : Nat} {l : List (Nat × Nat)} {t : ByteArray} (e1 : nx T a = q1) (h1 : numOf (tx T a) = some n) (h2 : tx T q1 ≠ ⟨#[46, 46]⟩) (h4 : tx T q1 ≠ ⟨#[44]⟩) :
    rngF T (F + 1) a l t = .ok q1 (l ++ [(n, n)]) (t ++ tx T a) := by
  subst e1
  exact Go.Proofs.YtgbemhehbhlgpaaGreatDoor.rngF_d0 h1 h2 h4
theorem RM_at {sb : Nat} {s : ByteArray} {a : Act} {w : World} {p : Nat} {x : ByteArray} (h : Sc w sb s p x) : RM sb s a w = s.size - p := by
  unfold RM
  rw [h.cell 1]
  rfl
theorem cm_size {s : ByteArray} {a : Nat} {c : UInt8} (h : tx s a = ⟨#[c]⟩) (ha : a ≤ s.size) : tkN s a = 1 := by
  rw [← tx_size ha, h]
  rfl
theorem own4_T {ab yb nb lb : Nat} {o : Int} {b : Nat} {nt : Bool} {rv : Value} : ∀ y ∈ own4 ab yb nb lb o b nt rv, y.2.2 ≠ SpE.T := by
  intro x hx
  simp only [List.mem_cons, List.not_mem_nil, or_false] at hx
  rcases hx with rfl | rfl | rfl | rfl <;> (simp only; decide)
theorem own4_set {ab yb nb lb : Nat} {o : Int} {b : Nat} {nt : Bool} {rv rv' : Value} (h1 : ab < yb) (h2 : yb < nb) (h3 : nb < lb) : ∀ x ∈ own4 ab yb nb lb o b nt rv', x = (lb, (#[rv] : Array Value).setIfInBounds 0 rv', 129) ∨ (x ∈ own4 ab yb nb lb o b nt rv ∧ x.1 ≠ lb) := by
  intro x hx
  simp only [List.mem_cons, List.not_mem_nil, or_false] at hx
  rcases hx with rfl | rfl | rfl | rfl
  · exact .inr ⟨by simp, by simp only; omega⟩
  · exact .inr ⟨by simp, by simp only; omega⟩
  · exact .inr ⟨by simp, by simp only; omega⟩
  · exact .inl rfl
theorem own4_not {xb ab yb nb lb : Nat} {o : Int} {b : Nat} {nt : Bool} {rv : Value} (h : xb ≠ ab ∧ xb ≠ yb ∧ xb ≠ nb ∧ xb ≠ lb) : ∀ x ∈ own4 ab yb nb lb o b nt rv, x.1 ≠ xb := by
  intro x hx
  simp only [List.mem_cons, List.not_mem_nil, or_false] at hx
  rcases hx with rfl | rfl | rfl | rfl <;> simp only <;> omega
set_option maxRecDepth 100000 in
set_option maxHeartbeats 1500000 in
theorem rl_pass : ∃ c, findLabel rlCode 0 = some (.seq .skip c) ∧ ∀ (w0 wS : World) (sb bb : Nat) (s : ByteArray) (R : Pr Rl) (Q : Exit → Act → World → Prop) (a : Act) (w : World), RJ w0 wS sb bb s R a w →
    (∀ a w', bodyPost Tryz.prog Tryz.f41 (fun e w' => RelEnd w0 wS sb bb s R e w') .ret a w' → Q .ret a w') →
    (∀ a2 w2, RJ w0 wS sb bb s R a2 w2 → RM sb s a2 w2 < RM sb s a w → Q (.goto 0) a2 w2) → c.wp Tryz.prog Q a w := by
  refine ⟨_, rfl, ?_⟩
  rintro w0 wS sb bb s R Q ⟨t, df⟩ w ⟨p, tx0, rv, rl, fu, ab, yb, nb, lb, o, b, nt, hdf, hsz, g0, g1, g6, g7, g10, g11, hR, h1, h2, h3, ho, hb, hrs, hll, htz, hfu, hRe⟩ hQ hG
  obtain ⟨f, hf, rfl⟩ := lit123 t hsz
  simp only at hdf g0 g1 g6 g7 g10 g11
  rw [hf] at g0 g1 g6 g7 g10 g11
  subst hdf
  have HQ := Lib.hid hQ; have HG := Lib.hid hG; have HRE := Lib.hid hRe; have HRS := Lib.hid hrs
  rw [g0, g1, g6, g7, g10, g11] at hG ⊢
  have hM : ∀ A : Act, RM sb s A w = s.size - p := fun A => RM_at hR.sc
  have HM := Lib.hid hM
  clear hQ hRe hrs hM hf hsz g0 g1 g6 g7 g10 g11
  have hps := hR.ain
  have hss := hR.sin
  obtain ⟨fu, rfl⟩ : ∃ k, fu = k + 1 := ⟨fu - 1, by omega⟩
  have HG := Lib.hid hG
  clear hG
  cases hn : numOf (tx s p) with
  | none =>
    have hc := hR.number_no hn
    have HN := Lib.hid hn
    clear hn
    go_wp2_with fail
    refine hc.mono ?_
    rintro e w1 ⟨rfl, hR1⟩
    go_wp2_with fail
    refine HQ.out _ _ (bodyPost_ret (v := .tuple #[.nilFunc, .bool false]) (by simp [results, Tryz.results41, go_sem]) rfl (.inl ⟨p, by rw [HRE.out, rngF_none HN.out], rfl, hR1.sc, hR1.bel, hR1.kp⟩))
  | some n =>
    have hc := hR.number_yes hn
    obtain ⟨hdg, hnv⟩ := numOf_val hn
    have hge := nx_ge (s := s) (a := p)
    have hin0 := tkN_in hps
    rw [← tx_size hps] at hge hin0
    have htk1 := (numOf_dig hn).1
    have HN := Lib.hid hn
    obtain ⟨U, hU⟩ : ∃ U, tx s p = U := ⟨_, rfl⟩
    obtain ⟨q1, hq1⟩ : ∃ q, nx s p = q := ⟨_, rfl⟩
    rw [hU] at hdg hge hin0 htk1
    rw [hq1] at hge hc
    have HU := Lib.hid hU
    have HQ1 := Lib.hid hq1
    clear hn hU hq1
    go_wp2_with fail
    refine hc.mono ?_
    rintro e w1 ⟨rfl, hR1⟩
    have hR2 := hR1.new #[.int .i64 (n : Int), .int .i64 (n : Int)] 131 (by decide)
    generalize hxb : w1.heap.size = xb at hR2
    have HXB := Lib.hid hxb
    go_wp2_with fail
    refine (hR2.format (n := n) (by omega)).mono ?_
    rintro e w3 ⟨rfl, hR3⟩
    rw [hdg]
    go_wp2_with fail
    refine (hR3.write U (by omega)).mono ?_
    rintro e w4 ⟨rfl, hR4⟩
    have hxo : wS.heap.size ≤ xb ∧ xb ≠ ab ∧ xb ≠ yb ∧ xb ≠ nb ∧ xb ≠ lb := by
      have k1 := lt_some (hR1.mem (ab, _, _) (List.mem_cons_self ..)).1
      have k2 := lt_some (hR1.mem (yb, #[.int .i64 b], 2) (by simp)).1
      have k3 := lt_some (hR1.mem (nb, #[.bool nt], 4) (by simp)).1
      have k4 := lt_some (hR1.mem (lb, #[rv], 129) (by simp)).1
      have k5 := hR1.o5
      simp only at k1 k2 k3 k4
      omega
    have hrx : rv.ownBlock ≠ some xb := fun e => by have := hR1.row.lt _ e; omega
    have hq1s := hR1.ain
    clear hc hR hR1 hR2 hR3 hxb
    have c2 := hR4.sc.cell 2
    simp at c2
    by_cases hdd : tx s q1 = ⟨#[46, 46]⟩
    · have hddB := tl_yes (l := [46, 46]) hdd
      have HDD := Lib.hid hdd
      have hge2 : q1 + 2 ≤ nx s q1 := by
        have h := nx_ge (s := s) (a := q1)
        have hz := tx_size hq1s
        rw [hdd, dot_size] at hz
        omega
      have hnx4 := hR4.next
      obtain ⟨q2, hq2⟩ : ∃ q, nx s q1 = q := ⟨_, rfl⟩
      rw [hq2] at hge2 hnx4
      have HQ2 := Lib.hid hq2
      clear hdd hq2
      go_wp2_with fail
      refine hnx4.mono ?_
      rintro e w5 ⟨rfl, hR5⟩
      have hq2s := hR5.ain
      cases hm : numOf (tx s q2) with
      | none =>
        have HMN := Lib.hid hm
        have hc5 := hR5.number_no hm
        clear hm
        go_wp2_with fail
        refine hc5.mono ?_
        rintro e w6 ⟨rfl, hR6⟩
        have hx6 := hR6.blk (b := xb) (cs := #[.int .i64 (n : Int), .int .i64 (n : Int)]) (T := 131) (by simp)
        have x1 := hx6.cell 1
        have xf1 := hx6.free 1
        simp at x1
        have hR7 := hR6.set xb 1 (.int .i64 0) #[.int .i64 (n : Int), .int .i64 (n : Int)] 131 (own4 ab yb nb lb o b nt rv) (by simp) hrx (fun x hx => .inr ⟨List.mem_cons_of_mem _ hx, own4_not hxo.2 x hx⟩)
        go_wp2_with fail
        refine HQ.out _ _ (bodyPost_ret (v := .tuple #[.nilFunc, .bool false]) (by simp [results, Tryz.results41, go_sem]) rfl (.inl ⟨_, by rw [HRE.out, rngF_bad2 HQ1.out HQ2.out HN.out HDD.out HMN.out], rfl, hR7.sc, hR7.bel, hR7.kp⟩))
      | some m =>
        have hc5 := hR5.number_yes hm
        obtain ⟨hdm, hmv⟩ := numOf_val hm
        have hge3 := nx_ge (s := s) (a := q2)
        rw [← tx_size hq2s] at hge3
        have HMM := Lib.hid hm
        obtain ⟨V, hV⟩ : ∃ V, tx s q2 = V := ⟨_, rfl⟩
        obtain ⟨q3, hq3⟩ : ∃ q, nx s q2 = q := ⟨_, rfl⟩
        rw [hV] at hdm hge3
        rw [hq3] at hge3 hc5
        have HV := Lib.hid hV
        have HQ3 := Lib.hid hq3
        clear hm hV hq3
        go_wp2_with fail
        refine hc5.mono ?_
        rintro e w6 ⟨rfl, hR6⟩
        have hx6 := hR6.blk (b := xb) (cs := #[.int .i64 (n : Int), .int .i64 (n : Int)]) (T := 131) (by simp)
        have x1 := hx6.cell 1
        have xf1 := hx6.free 1
        have hq3s := hR6.ain
        simp at x1
        have hR7 := hR6.set xb 1 (.int .i64 m) #[.int .i64 (n : Int), .int .i64 (n : Int)] 131 ((xb, #[.int .i64 (n : Int), .int .i64 (m : Int)], 131) :: own4 ab yb nb lb o b nt rv) (by simp) hrx (fun x hx => (List.mem_cons.1 hx).elim (fun e => .inl e) (fun hx => .inr ⟨List.mem_cons_of_mem _ hx, own4_not hxo.2 x hx⟩))
        go_wp2_with fail
        refine (hR7.format (n := m) (by omega)).mono ?_
        rintro e w8 ⟨rfl, hR8⟩
        rw [hdm]
        have hsm : ¬ 9223372036854775807 < 2 + V.size := by omega
        have hszy : (tx0 ++ U ++ (⟨#[46, 46]⟩ ++ V)).size = tx0.size + U.size + (2 + V.size) := by rw [ByteArray.size_append, ByteArray.size_append, dots_app]
        have hszw : (tx0 ++ U).size + ((⟨#[46, 46]⟩ : ByteArray) ++ V).size ≤ 100000000 := by rw [ByteArray.size_append, dots_app]; omega
        have HSZ := Lib.hid (show ∀ X : ByteArray, X.size ≤ 1 → (tx0 ++ U ++ (⟨#[46, 46]⟩ ++ V)).size + X.size ≤ 100000000 from fun X hX => by rw [hszy]; omega)
        have HSY := Lib.hid hszy
        have HSW := Lib.hid hszw
        clear hszy hszw
        go_wp2_with fail
        have hw8 := hR8.write _ HSW.out
        refine hw8.mono ?_
        rintro e w9 ⟨rfl, hR9⟩
        have c9 := hR9.sc.cell 2
        simp at c9
        clear hc5 hR4 hR5 hR6 hR7 hR8 x1 xf1 hx6 c2
        have hR5 := hR9.weak (own' := own4 ab yb nb lb o b nt rv) (fun x hx => List.mem_cons_of_mem _ hx)
        have hx5 := hR9.blk (b := xb) (cs := #[.int .i64 (n : Int), .int .i64 (m : Int)]) (T := 131) (by simp)
        have x0 := hx5.cell 0
        have x1 := hx5.cell 1
        have hl5 := hR5.blk (b := lb) (cs := #[rv]) (T := 129) (by simp)
        have l0 := hl5.cell 0
        simp at x0 x1 l0
        obtain ⟨ra, rc, hrv⟩ := hR5.row.form
        have HRV := Lib.hid hrv
        have hq5 := hR5.ain
        clear hrv
        have hbd : ∀ r ∈ rl ++ [(n, m)], r.1 < 1000000000 ∧ r.2 < 1000000000 := fun r hr => (List.mem_append.1 hr).elim (HRS.out r) (fun hr => by rw [List.mem_singleton.1 hr]; exact ⟨hnv, hmv⟩)
        have HBD := Lib.hid hbd
        clear hbd
        by_cases hcm : tx s q3 = ⟨#[44]⟩
        · have hcmB := tl_yes (l := [44]) hcm
          have hge9 : q3 + 1 ≤ nx s q3 := by have := nx_ge (s := s) (a := q3); have := cm_size hcm hq5; omega
          have HCM := Lib.hid hcm
          obtain ⟨q9, hq9⟩ : ∃ q9, nx s q3 = q9 := ⟨_, rfl⟩
          rw [hq9] at hge9
          have HQ9 := Lib.hid hq9
          clear hcm hq9
          go_wp2_with (at_builtin; go_must (refine wpList_snoc_g SpE (x := (n, m)) rfl _ _ rfl wS.heap.size rv rl rfl (hR5.on ((Below.refl _ _).alloc (Nat.le_refl _) (.cells #[.int .i64 (n : Int), .int .i64 (m : Int)] 131))).row 1 _ rfl (Blk.new _ _ _) (by omega) (Nat.le_trans hR5.o5 (by simp)) ?_); intro rv' w6 hrow6 hg6; obtain ⟨ra', rn', rc', rfl⟩ := hrow6.form'; have hR6 := (hR5.on ((Below.refl _ _).alloc (Nat.le_refl _) (.cells #[.int .i64 (n : Int), .int .i64 (m : Int)] 131))).snoc hrow6 hg6 own4_T; have hl6 := hR6.blk (b := lb) (cs := #[rv]) (T := 129) (by simp); have l6 := hl6.cell 0; have lf6 := hl6.free 0; simp at l6; have hR7 := hR6.set lb 0 (.slice ra' rn' rc') #[rv] 129 (own4 ab yb nb lb o b nt (.slice ra' rn' rc')) (by simp) (hR6.row_ne (b := lb) (cs := #[rv]) (T := 129) (by simp) (by decide)) (own4_set h1 h2 h3); have c7 := hR7.sc.cell 2; simp at c7)
          have hnx := hR7.next
          rw [HQ9.out] at hnx
          refine hnx.mono ?_
          rintro e w9 ⟨rfl, hR9⟩
          go_wp2_with fail
          refine (hR9.write ⟨#[44]⟩ (HSZ.out ⟨#[44]⟩ comma_le)).mono ?_
          rintro e w10 ⟨rfl, hR10⟩
          have hq10 := hR10.ain
          go_wp2_with fail
          refine wp_goto (HG.out _ _ ⟨_, _, .slice ra' rn' rc', rl ++ [(n, m)], fu, ab, yb, nb, lb, o, b, nt, rfl, rfl, rfl, rfl, rfl, rfl, rfl, rfl, hR10, h1, h2, h3, ho, hb, HBD.out, ?_, ?_, ?_, ?_⟩ ?_)
          · rw [List.length_append, one_len]; omega
          · rw [app_comma]; have := HSY.out; omega
          · omega
          · rw [HRE.out, rngF_a HQ1.out HQ2.out HQ3.out HN.out HDD.out HMM.out HCM.out, HU.out, HV.out, HQ9.out]
          · rw [RM_at hR10.sc, HM.out]; omega
        · have hcmB := tl_no (l := [44]) hcm
          have HCM := Lib.hid hcm
          clear hcm
          go_wp2_with (at_builtin; go_must (refine wpList_snoc_g SpE (x := (n, m)) rfl _ _ rfl wS.heap.size rv rl rfl (hR5.on ((Below.refl _ _).alloc (Nat.le_refl _) (.cells #[.int .i64 (n : Int), .int .i64 (m : Int)] 131))).row 1 _ rfl (Blk.new _ _ _) (by omega) (Nat.le_trans hR5.o5 (by simp)) ?_); intro rv' w6 hrow6 hg6; obtain ⟨ra', rn', rc', rfl⟩ := hrow6.form'; have hR6 := (hR5.on ((Below.refl _ _).alloc (Nat.le_refl _) (.cells #[.int .i64 (n : Int), .int .i64 (m : Int)] 131))).snoc hrow6 hg6 own4_T; have hl6 := hR6.blk (b := lb) (cs := #[rv]) (T := 129) (by simp); have l6 := hl6.cell 0; have lf6 := hl6.free 0; simp at l6; have hR7 := hR6.set lb 0 (.slice ra' rn' rc') #[rv] 129 (own4 ab yb nb lb o b nt (.slice ra' rn' rc')) (by simp) (hR6.row_ne (b := lb) (cs := #[rv]) (T := 129) (by simp) (by decide)) (own4_set h1 h2 h3); have c7 := hR7.sc.cell 2; simp at c7)
          refine HQ.out _ _ (bodyPost_ret (v := .tuple #[relF ab yb nb lb, .bool true]) (by simp [results, Tryz.results41, go_sem]) rfl (.inr ⟨_, _, _, _, by rw [HRE.out, rngF_b HQ1.out HQ2.out HQ3.out HN.out HDD.out HMM.out HCM.out, HU.out, HV.out], rfl, hR7.sc, hR7.bld, hR7.bel, hR7.kp, hR7.o5, hR7.asks ho hb HBD.out ?_⟩))
          rw [List.length_append, one_len]; omega
    · have hddB := tl_no (l := [46, 46]) hdd
      have HDD := Lib.hid hdd
      have hszy : (tx0 ++ U).size = tx0.size + U.size := ByteArray.size_append
      have HSZ := Lib.hid (show ∀ X : ByteArray, X.size ≤ 1 → (tx0 ++ U).size + X.size ≤ 100000000 from fun X hX => by rw [hszy]; omega)
      have HSY := Lib.hid hszy
      clear hdd hszy
      have hR5 := hR4.weak (own' := own4 ab yb nb lb o b nt rv) (fun x hx => List.mem_cons_of_mem _ hx)
      have hx5 := hR4.blk (b := xb) (cs := #[.int .i64 (n : Int), .int .i64 (n : Int)]) (T := 131) (by simp)
      have x0 := hx5.cell 0
      have x1 := hx5.cell 1
      have hl5 := hR5.blk (b := lb) (cs := #[rv]) (T := 129) (by simp)
      have l0 := hl5.cell 0
      simp at x0 x1 l0
      obtain ⟨ra, rc, hrv⟩ := hR5.row.form
      have HRV := Lib.hid hrv
      have hq5 := hR5.ain
      clear hrv
      have hbd : ∀ r ∈ rl ++ [(n, n)], r.1 < 1000000000 ∧ r.2 < 1000000000 := fun r hr => (List.mem_append.1 hr).elim (HRS.out r) (fun hr => by rw [List.mem_singleton.1 hr]; exact ⟨hnv, hnv⟩)
      have HBD := Lib.hid hbd
      clear hbd
      by_cases hcm : tx s q1 = ⟨#[44]⟩
      · have hcmB := tl_yes (l := [44]) hcm
        have hge9 : q1 + 1 ≤ nx s q1 := by have := nx_ge (s := s) (a := q1); have := cm_size hcm hq5; omega
        have HCM := Lib.hid hcm
        obtain ⟨q9, hq9⟩ : ∃ q9, nx s q1 = q9 := ⟨_, rfl⟩
        rw [hq9] at hge9
        have HQ9 := Lib.hid hq9
        clear hcm hq9
        go_wp2_with (at_builtin; go_must (refine wpList_snoc_g SpE (x := (n, n)) rfl _ _ rfl wS.heap.size rv rl rfl (hR5.on ((Below.refl _ _).alloc (Nat.le_refl _) (.cells #[.int .i64 (n : Int), .int .i64 (n : Int)] 131))).row 1 _ rfl (Blk.new _ _ _) (by omega) (Nat.le_trans hR5.o5 (by simp)) ?_); intro rv' w6 hrow6 hg6; obtain ⟨ra', rn', rc', rfl⟩ := hrow6.form'; have hR6 := (hR5.on ((Below.refl _ _).alloc (Nat.le_refl _) (.cells #[.int .i64 (n : Int), .int .i64 (n : Int)] 131))).snoc hrow6 hg6 own4_T; have hl6 := hR6.blk (b := lb) (cs := #[rv]) (T := 129) (by simp); have l6 := hl6.cell 0; have lf6 := hl6.free 0; simp at l6; have hR7 := hR6.set lb 0 (.slice ra' rn' rc') #[rv] 129 (own4 ab yb nb lb o b nt (.slice ra' rn' rc')) (by simp) (hR6.row_ne (b := lb) (cs := #[rv]) (T := 129) (by simp) (by decide)) (own4_set h1 h2 h3); have c7 := hR7.sc.cell 2; simp at c7)
        have hnx := hR7.next
        rw [HQ9.out] at hnx
        refine hnx.mono ?_
        rintro e w9 ⟨rfl, hR9⟩
        go_wp2_with fail
        refine (hR9.write ⟨#[44]⟩ (HSZ.out ⟨#[44]⟩ comma_le)).mono ?_
        rintro e w10 ⟨rfl, hR10⟩
        have hq10 := hR10.ain
        go_wp2_with fail
        refine wp_goto (HG.out _ _ ⟨_, _, .slice ra' rn' rc', rl ++ [(n, n)], fu, ab, yb, nb, lb, o, b, nt, rfl, rfl, rfl, rfl, rfl, rfl, rfl, rfl, hR10, h1, h2, h3, ho, hb, HBD.out, ?_, ?_, ?_, ?_⟩ ?_)
        · rw [List.length_append, one_len]; omega
        · rw [app_comma]; have := HSY.out; omega
        · omega
        · rw [HRE.out, rngF_c HQ1.out HN.out HDD.out HCM.out, HU.out, HQ9.out]
        · rw [RM_at hR10.sc, HM.out]; omega
      · have hcmB := tl_no (l := [44]) hcm
        have HCM := Lib.hid hcm
        clear hcm
        go_wp2_with (at_builtin; go_must (refine wpList_snoc_g SpE (x := (n, n)) rfl _ _ rfl wS.heap.size rv rl rfl (hR5.on ((Below.refl _ _).alloc (Nat.le_refl _) (.cells #[.int .i64 (n : Int), .int .i64 (n : Int)] 131))).row 1 _ rfl (Blk.new _ _ _) (by omega) (Nat.le_trans hR5.o5 (by simp)) ?_); intro rv' w6 hrow6 hg6; obtain ⟨ra', rn', rc', rfl⟩ := hrow6.form'; have hR6 := (hR5.on ((Below.refl _ _).alloc (Nat.le_refl _) (.cells #[.int .i64 (n : Int), .int .i64 (n : Int)] 131))).snoc hrow6 hg6 own4_T; have hl6 := hR6.blk (b := lb) (cs := #[rv]) (T := 129) (by simp); have l6 := hl6.cell 0; have lf6 := hl6.free 0; simp at l6; have hR7 := hR6.set lb 0 (.slice ra' rn' rc') #[rv] 129 (own4 ab yb nb lb o b nt (.slice ra' rn' rc')) (by simp) (hR6.row_ne (b := lb) (cs := #[rv]) (T := 129) (by simp) (by decide)) (own4_set h1 h2 h3); have c7 := hR7.sc.cell 2; simp at c7)
        refine HQ.out _ _ (bodyPost_ret (v := .tuple #[relF ab yb nb lb, .bool true]) (by simp [results, Tryz.results41, go_sem]) rfl (.inr ⟨_, _, _, _, by rw [HRE.out, rngF_d HQ1.out HN.out HDD.out HCM.out, HU.out], rfl, hR7.sc, hR7.bld, hR7.bel, hR7.kp, hR7.o5, hR7.asks ho hb HBD.out ?_⟩))
        rw [List.length_append, one_len]; omega
end Go.Proofs.YtgbemhehbhlgpaaGreatDoor
