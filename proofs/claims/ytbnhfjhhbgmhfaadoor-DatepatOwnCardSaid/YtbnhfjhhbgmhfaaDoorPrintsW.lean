/-
  The walk of DatepatPrints; a copy of fields.
-/
import Derived.Test.YtbnhfjhhbgmhfaaDoorDpO
import Derived.Test.YtbnhfjhhbgmhfaaDoorDpZ
import Derived.Laws.AppendOwnNone
namespace Go.Proofs.YtbnhfjhhbgmhfaaDoor
open Go.RowKit Go.PlainAid

/-- A slice that came in and reads as fields. -/
def PFArg (w : World) (v : Value) (l : List PF) : Prop := PFAt w v l ∧ ∃ a cap, v = .slice a l.length cap ∧ (a = none → cap = 0 ∧ l.length = 0)
theorem PFArg.later {w w' : World} {v : Value} {l : List PF} (h : PFArg w v l) (hB : Below w.heap.size w w') : PFArg w' v l := ⟨h.1.later hB, h.2⟩

set_option maxRecDepth 100000 in
/-- append([]api.Field{}, l...): a copy of its own. -/
theorem wpList_copy_pf {ops : Array Oper} {rest : List Oper} {o : Oper} {a : Act} {Q : Exit → Act → World → Prop} {W0 w : World} {B : Nat} (hgd : o.guard = none) (s y : Operand)
    (ho : o.op = .call { callee := .builtin .append, args := #[s, y], argTypes := #[23, 23] }) (q : Nat) (hq : q = w.heap.size) (hs : a.eval s = .slice (some ⟨q, 0, none⟩) 0 0)
    (v : Value) (l : List PF) (hx : a.eval y = v) (hv : PFArg w v l) (hlen : l.length ≤ 1100000) (hB : Below B W0 w) (hb : B ≤ w.heap.size)
    (h : ∀ v' w', PFRow w.heap.size w' v' l → Below B W0 w' → wpList Tryd.prog ops Q rest (a.put o.dst v') w') : wpList Tryd.prog ops Q (o :: rest) a (w.alloc (.cells #[] 43)) := by
  subst hq
  obtain ⟨i0, hi, hz0, hz1, hz2⟩ := info_parts infoPF
  have hown : (w.alloc (.cells #[] 43)).ownsRow w.heap.size 43 3 (.slice (some ⟨w.heap.size, 0, none⟩) 0 0) 0 [] :=
    ⟨rfl, .inr ⟨w.heap.size, 0, #[], rfl, Nat.le_refl _, (by show (w.heap.push _)[w.heap.size]? = _; simp), Nat.le_refl _, Nat.zero_le _, rfl, rfl⟩⟩
  have hBa := hB.alloc hb (.cells #[] 43)
  obtain ⟨⟨ad, cap, rfl, _, hc⟩, ad2, cap2, he, hn⟩ := hv
  injection he with he1 _ he2
  subst he1 he2
  cases ad with
  | none =>
    obtain ⟨rfl, hl0⟩ := hn rfl
    have hnil : l = [] := List.eq_nil_of_length_eq_zero hl0
    subst hnil
    exact wpList_append_own_none hgd s y 23 ho w.heap.size 43 i0 3 Tryd.underlying23 hi _ 0 [] hs hown hx (h _ _ hown hBa)
  | some ad =>
    refine wpList_append_own _ hgd s y 23 ho w.heap.size 43 i0 (.agg #[.int .u8 0, .int .i64 0, .string ⟨#[]⟩]) 3 32 Tryd.underlying23 hi hz0 hz1 hz2 rfl (by decide) _ 0 [] hs hown ad l.length cap (pfCs l) hx (pfCs_len l) (fun j u hu => ?_) (fun u hu => ?_) (by unfold maxLen; omega) (by omega) (by simp) ?_
    · obtain ⟨hj, hju⟩ := List.getElem?_eq_some_iff.1 hu
      rw [pfCs_len] at hj
      have hk : j / 3 < l.length := by omega
      obtain ⟨g, off, he, hg, c0, c1, c2⟩ := hc (j / 3) hk
      injection he with he
      subst he
      have hA := (Below.refl w.heap.size w).alloc (Nat.le_refl _) (.cells #[] 43)
      have hat := pfCs_at l (j / 3) hk
      rw [Lib.add_plain]
      rcases (by omega : j = j / 3 * 3 ∨ j = j / 3 * 3 + 1 ∨ j = j / 3 * 3 + 2) with hjj | hjj | hjj
      · rw [hjj] at hu ⊢
        rw [cell_later c0 hA, ← hat.1, ← hu]
      · rw [hjj] at hu ⊢
        rw [← Nat.add_assoc, cell_later c1 hA, ← hat.2.1, ← hu]
      · rw [hjj] at hu ⊢
        rw [← Nat.add_assoc, cell_later c2 hA, ← hat.2.2, ← hu]
    · unfold pfCs at hu
      obtain ⟨x, _, hx⟩ := List.mem_flatMap.1 hu
      simp only [pfC, List.mem_cons, List.not_mem_nil, or_false] at hx
      rcases hx with rfl | rfl | rfl <;> rfl
    intro v' w' hown' hgrow _
    rw [Nat.zero_add, List.nil_append] at hown'
    refine h v' w' hown' (hBa.grown hgrow (by simp; omega) (fun k hk => ?_))
    have : k = w.heap.size := by injection hk with e; exact e.symm
    omega

theorem ofN_fin {l : List PF} (h : PFin l) : ∀ r, ∀ x ∈ ofN l r, fldB x = true ∧ 0 ≤ x.1 ∧ x.1 ≤ 255 ∧ x.2.2.size ≤ 1100000
  | 0, x, hx => absurd hx (by simp [ofN])
  | r + 1, x, hx => by
    have hx' : x ∈ ofN l r ++ ofOne l (r + 1) := hx
    rcases List.mem_append.1 hx' with hx | hx
    · exact ofN_fin h r x hx
    · unfold ofOne at hx
      by_cases h8 : r + 1 = 8
      · rw [if_pos h8] at hx
        exact absurd hx (by simp)
      · rw [if_neg h8] at hx
        cases hf : findR l (r + 1) with
        | none => rw [hf] at hx; exact absurd hx (by simp)
        | some y =>
          rw [hf] at hx
          have hx : x = (plainB y.1, y.2.1, ⟨#[]⟩) := by simpa using hx
          obtain ⟨hm, hr⟩ := findR_some hf
          obtain ⟨h1, h2, h3, _⟩ := h.2 y hm
          have hc := fldB_count h1
          have h0 : y.1 ≠ 0 := fun e => by rw [e] at hr; have : rankB 0 = 0 := rfl; omega
          have hp := plain_range y.1 h2 h3
          have hrk : rankB (plainB y.1) ≠ 0 := by rw [rank_plain, hr]; omega
          have hp0 : plainB y.1 ≠ 0 := fun e => by rw [e] at hrk; exact hrk rfl
          subst hx
          refine ⟨?_, hp.1, hp.2, Nat.zero_le _⟩
          unfold fldB at h1 ⊢
          rw [if_neg h0] at h1
          have h1 := of_decide_eq_true h1
          simp only
          rw [if_neg hp0]
          refine decide_eq_true ⟨rfl, hrk, h1.2.2.1, ?_⟩
          rw [rank_plain]
          exact h1.2.2.2
theorem ofL_fin {l : List PF} (h : PFin l) : PFin (ofL l) := ⟨by have := (ofL_sk h).1; omega, ofN_fin h 13⟩

set_option maxRecDepth 100000 in
set_option maxHeartbeats 4000000 in
theorem datepatPrints_walk (v : Value) (l : List PF) (w : World) (hv : PFArg w v l) (hsz : PFsz l) (hG : Gl w) :
    Calls Tryd.prog 4 #[v] w fun e w' => e = .returned (.bool true) ∧ Below w.heap.size w w' := by
  have HV := Lib.hid hv
  obtain ⟨_, va, vcap, rfl, _⟩ := hv
  have hlm := hsz.1
  by_cases h500 : 500 < l.length
  · have hI : (500 : Int) < l.length := by omega
    go_enter Tryd.func4, Tryd.ntmps4
    go_wp2_with fail
    refine (wakes_any _ hG).mono ?_
    rintro e w0 ⟨rfl, hB0⟩
    go_wp2_with fail
    go_ret
    exact ⟨rfl, hB0⟩
  · have hI : ¬ (500 : Int) < l.length := by omega
    have hpr := fun u W h g => dprint_any u l W h hsz g
    have hof := fun u W h g => dOf_any u l W h hsz g
    have hmy := fun W h => rMay_any (.slice va l.length vcap) l W h hsz.ok
    have HPR := Lib.hid hpr
    have HOF := Lib.hid hof
    have HMY := Lib.hid hmy
    clear hpr hof hmy
    cases hm : mayB l with
    | false =>
      have hp2 : dpPrint l = (⟨#[]⟩, 2) := by unfold dpPrint; rw [hm]; rfl
      have ho2 : dpOf l = (⟨#[]⟩, 2) := by unfold dpOf; rw [hp2]; rfl
      rw [hp2] at HPR
      rw [ho2] at HOF
      rw [hm] at HMY
      clear hp2 ho2 hm
      go_enter Tryd.func4, Tryd.ntmps4
      go_wp2_with fail
      refine (wakes_any _ hG).mono ?_
      rintro e w0 ⟨rfl, hB0⟩
      have hv0 := HV.out.later hB0
      have g0 := (GB.start hG).on hB0
      go_wp2_with (at_builtin; go_must (refine wpList_copy_pf rfl _ _ rfl _ rfl rfl _ l rfl hv0 (by omega) hB0 hB0.size ?_); intro v' w1 hr1 hB1)
      have g1 : GB w w1 := ⟨hG.later hB1, hB1⟩
      refine (HPR.out _ _ (hr1.at (by omega)) g1.1).mono ?_
      rintro e w2 ⟨rfl, hB2⟩
      have g2 := g1.on hB2
      have hv2 := HV.out.later g2.2
      clear hv0 hB0 hB1 hB2 hr1 g0
      go_wp2_with (at_builtin; go_must (refine wpList_copy_pf rfl _ _ rfl _ rfl rfl _ l rfl hv2 (by omega) g2.2 g2.2.size ?_); intro v' w3 hr3 hB3)
      have g3 : GB w w3 := ⟨hG.later hB3, hB3⟩
      refine (HOF.out _ _ (hr3.at (by omega)) g3.1).mono ?_
      rintro e w4 ⟨rfl, hB4⟩
      have g4 := g3.on hB4
      have hv4 := HV.out.later g4.2
      clear hv2 hB3 hB4 hr3 g1 g2 g3
      go_wp2_with fail
      refine (HMY.out _ hv4.1).mono ?_
      rintro e w5 ⟨rfl, hB5⟩
      have g5 := g4.on hB5
      go_wp2_with fail
      go_ret
      exact ⟨rfl, g5.2⟩
    | true =>
      have hin := hsz.fin hm
      have hpp := fun u W h => rPrint_any u l W h hin
      have HPP := Lib.hid hpp
      have hro := fun u W h => rOf_any u l W h hsz.ok
      have HRO := Lib.hid hro
      have hsk := ofL_sk hin
      rw [hm] at HMY
      by_cases h4 : 4096 < (printT l).size
      · have hp2 : dpPrint l = (⟨#[]⟩, 3) := by unfold dpPrint; rw [if_pos hm, if_pos h4]
        have ho2 : dpOf l = (⟨#[]⟩, 3) := by unfold dpOf; rw [hp2]; rfl
        rw [hp2] at HPR
        rw [ho2] at HOF
        have h4I : (4096 : Int) < (printT l).size := by omega
        generalize printT l = P at *
        clear hp2 ho2 hm hpp hro h4 hin hsk
        go_enter Tryd.func4, Tryd.ntmps4
        go_wp2_with fail
        refine (wakes_any _ hG).mono ?_
        rintro e w0 ⟨rfl, hB0⟩
        have hv0 := HV.out.later hB0
        go_wp2_with (at_builtin; go_must (refine wpList_copy_pf rfl _ _ rfl _ rfl rfl _ l rfl hv0 (by omega) hB0 hB0.size ?_); intro v' w1 hr1 hB1)
        have g1 : GB w w1 := ⟨hG.later hB1, hB1⟩
        refine (HPR.out _ _ (hr1.at (by omega)) g1.1).mono ?_
        rintro e w2 ⟨rfl, hB2⟩
        have g2 := g1.on hB2
        have hv2 := HV.out.later g2.2
        clear hv0 hB0 hB1 hB2 hr1
        go_wp2_with (at_builtin; go_must (refine wpList_copy_pf rfl _ _ rfl _ rfl rfl _ l rfl hv2 (by omega) g2.2 g2.2.size ?_); intro v' w3 hr3 hB3)
        have g3 : GB w w3 := ⟨hG.later hB3, hB3⟩
        refine (HOF.out _ _ (hr3.at (by omega)) g3.1).mono ?_
        rintro e w4 ⟨rfl, hB4⟩
        have g4 := g3.on hB4
        have hv4 := HV.out.later g4.2
        clear hv2 hB3 hB4 hr3 g1 g2 g3
        go_wp2_with fail
        refine (HMY.out _ hv4.1).mono ?_
        rintro e w5 ⟨rfl, hB5⟩
        have g5 := g4.on hB5
        have hv5 := HV.out.later g5.2
        clear g4 hB5 hv4
        go_wp2_with fail
        refine (HPP.out _ _ hv5.1).mono ?_
        rintro e w6 ⟨rfl, hB6⟩
        have g6 := g5.on hB6
        go_wp2_with fail
        go_ret
        exact ⟨rfl, g6.2⟩
      · have hp2 : dpPrint l = (printT l, 0) := by unfold dpPrint; rw [if_pos hm, if_neg h4]
        have ho2 : dpOf l = (printT (ofL l), 0) := by unfold dpOf; rw [hp2]; rfl
        rw [hp2] at HPR
        rw [ho2] at HOF
        have hfo : PFin (ofL l) := ofL_fin hin
        have hpo := fun u W h => rPrint_any u (ofL l) W h hfo
        have HPO := Lib.hid hpo
        have h4I : ¬ (4096 : Int) < (printT l).size := by omega
        have hol := hsk.1
        generalize printT l = P at *
        clear hp2 ho2 hm hpp hro h4 hin hsk hpo hfo
        generalize ofL l = O at *
        go_enter Tryd.func4, Tryd.ntmps4
        go_wp2_with fail
        refine (wakes_any _ hG).mono ?_
        rintro e w0 ⟨rfl, hB0⟩
        have hv0 := HV.out.later hB0
        go_wp2_with (at_builtin; go_must (refine wpList_copy_pf rfl _ _ rfl _ rfl rfl _ l rfl hv0 (by omega) hB0 hB0.size ?_); intro v' w1 hr1 hB1)
        have g1 : GB w w1 := ⟨hG.later hB1, hB1⟩
        refine (HPR.out _ _ (hr1.at (by omega)) g1.1).mono ?_
        rintro e w2 ⟨rfl, hB2⟩
        have g2 := g1.on hB2
        have hv2 := HV.out.later g2.2
        clear hv0 hB0 hB1 hB2 hr1
        go_wp2_with (at_builtin; go_must (refine wpList_copy_pf rfl _ _ rfl _ rfl rfl _ l rfl hv2 (by omega) g2.2 g2.2.size ?_); intro v' w3 hr3 hB3)
        have g3 : GB w w3 := ⟨hG.later hB3, hB3⟩
        refine (HOF.out _ _ (hr3.at (by omega)) g3.1).mono ?_
        rintro e w4 ⟨rfl, hB4⟩
        have g4 := g3.on hB4
        have hv4 := HV.out.later g4.2
        clear hv2 hB3 hB4 hr3 g1 g2 g3
        go_wp2_with fail
        refine (HMY.out _ hv4.1).mono ?_
        rintro e w5 ⟨rfl, hB5⟩
        have g5 := g4.on hB5
        have hv5 := HV.out.later g5.2
        clear g4 hB5 hv4
        go_wp2_with fail
        refine (HPP.out _ _ hv5.1).mono ?_
        rintro e w6 ⟨rfl, hB6⟩
        have g6 := g5.on hB6
        have hv6 := HV.out.later g6.2
        clear g5 hB6 hv5
        go_wp2_with fail
        refine (HRO.out _ _ hv6.1).mono ?_
        rintro e w7 ⟨u, rfl, hr7, hB7⟩
        have g7 := g6.on hB7
        go_wp2_with fail
        refine (HPO.out _ _ (hr7.at (by omega))).mono ?_
        rintro e w8 ⟨rfl, hB8⟩
        have g8 := g7.on hB8
        go_wp2_with fail
        go_ret
        exact ⟨rfl, g8.2⟩
end Go.Proofs.YtbnhfjhhbgmhfaaDoor
