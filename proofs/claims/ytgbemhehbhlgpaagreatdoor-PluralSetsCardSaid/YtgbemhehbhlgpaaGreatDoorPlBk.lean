/-
  Rules for numbers: a rule's text is read as the same rule. No program in sight. The rule of the verifier's wakes.
-/
import Derived.Test.YtgbemhehbhlgpaaGreatDoorPlHo
namespace Go.Proofs.YtgbemhehbhlgpaaGreatDoor
open Go.RowKit Go.PlainAid

theorem fin_end (x : ByteArray) : FinR x x.size ∧ tkG x x.size = x.size ∧ (tx x x.size).size = 0 := by
  have h1 : tkG x x.size = x.size := tkG_stop (fun g => by omega)
  have h2 : (tx x x.size).size = 0 := by rw [tx_size (Nat.le_refl _)]; exact tkN_zero.2 (.inl (by omega))
  exact ⟨⟨.inl (by omega), by rw [h1]; exact .inl h2⟩, h1, h2⟩
theorem first_low {x : ByteArray} (h1 : 1 ≤ x.size) (h2 : bLo (bt x 0) = true) : tkG x 0 = 0 ∧ (tx x 0).size ≠ 0 := by
  have h3 := of_decide_eq_true h2
  have h4 : tkG x 0 = 0 := tkG_stop (fun g => by omega)
  refine ⟨h4, ?_⟩
  rw [tx_size (Nat.zero_le _)]
  have := tkN_pos (s := x) (a := 0) (by omega) (by omega)
  omega
theorem jointT_nil (j : ByteArray) : jointT ⟨#[]⟩ j = ⟨#[]⟩ := jointT_none rfl
theorem nil_app (x : ByteArray) : (⟨#[]⟩ : ByteArray) ++ x = x := bytes_eq (by rw [ByteArray.size_append]; show 0 + x.size = _; omega) (fun k hk => by
  rw [bt_app]
  show (if k < 0 then bt ⟨#[]⟩ k else bt x (k - 0)) = bt x k
  rw [if_neg (Nat.not_lt_zero k), Nat.sub_zero])
/-- What a rule's text is: nothing, or relations. -/
theorem rule_shape {s : ByteArray} {p : Nat} {rows : List (List Rl)} {t : ByteArray} (h : ruleP s = .ok p rows t) :
    (t = ⟨#[]⟩ ∧ rows = [[]]) ∨ ∃ r L, 1 ≤ t.size ∧ bLo (bt t 0) = true ∧ rows = adds [] ((orB, r) :: L) ∧ (∀ y ∈ L, isJ y.1) ∧
      ((∃ y ∈ L, y.1 = orB) → ∃ k, Has t k ⟨#[32, 111, 114, 32]⟩ ∧ k + 4 < t.size) ∧ ((∃ y ∈ L, y.1 = andB) → ∃ k, Has t k ⟨#[97, 110]⟩) ∧ ((∃ y ∈ L, y.1 = orB) → ∃ k, Has t k ⟨#[111, 114]⟩) ∧
      ∀ T i F any0 t0 j0, Has T i t → FinR T (i + t.size) → t.size ≤ F → ∃ F', F ≤ F' + t.size ∧ ruleF T F i any0 t0 j0 = goOn T F' (tkG T (i + t.size)) (adds any0 ((j0, r) :: L)) (jointT t0 j0 ++ t) := by
  unfold ruleP at h
  split at h
  · injection h with _ h2 h3
    exact .inl ⟨h3.symm, h2.symm⟩
  · obtain ⟨x, r, L, e1, e2, e3, e4, e5, e6, e7, e8, e9⟩ := rule_again _ _ _ _ _ _ _ _ h
    rw [jointT_nil, nil_app] at e1
    subst e1
    exact .inr ⟨r, L, e2, e3, e4, e5, e6, e7, e8, e9⟩
theorem rule_back {s : ByteArray} {p : Nat} {rows : List (List Rl)} {t : ByteArray} (h : ruleP s = .ok p rows t) : ∃ p', ruleP t = .ok p' rows t := by
  rcases rule_shape h with ⟨rfl, rfl⟩ | ⟨r, L, h1, h2, h3, _, _, _, _, h4⟩
  · exact ⟨0, by kernel_rfl⟩
  · obtain ⟨f1, f2, f3⟩ := fin_end t
    obtain ⟨g1, g2⟩ := first_low h1 h2
    obtain ⟨F', _, k⟩ := h4 t 0 (t.size + 1) [] ⟨#[]⟩ orB (Has.all t) (by rw [Nat.zero_add]; exact f1) (by omega)
    refine ⟨t.size, ?_⟩
    unfold ruleP
    rw [g1, if_neg g2, k, Nat.zero_add, f2, jointT_nil, nil_app]
    unfold goOn
    rw [if_neg (fun e => e.elim (tx_none f3).1 (tx_none f3).2), if_pos f3, h3]

def wakeB : ByteArray := ⟨#[110, 32, 37, 32, 49, 48, 32, 61, 32, 50, 46, 46, 52, 32, 97, 110, 100, 32, 110, 32, 37, 32, 49, 48, 48, 32, 33, 61, 32, 49, 50, 46, 46, 49, 52]⟩
def wakeR : List (List Rl) := [[⟨110, 10, false, [(2, 4)]⟩, ⟨110, 100, true, [(12, 14)]⟩]]
theorem wake_rule : ruleP wakeB = .ok 35 wakeR wakeB := by kernel_rfl
theorem wake_23 : rowsH (digs 23) 0 wakeR = true := by kernel_rfl
theorem wake_12 : rowsH (digs 12) 0 wakeR = false := by kernel_rfl
theorem wake_few : Lib.containsS six ⟨#[102, 101, 119]⟩ = true := by decide +kernel
set_option maxRecDepth 100000 in
set_option maxHeartbeats 2000000 in
theorem wakes_any (w : World) (hP : PG w) (hTon : ∀ W, Below w.heap.size w W → SpTab W) : Calls Tryz.prog 11 #[] w fun e w' => e = .returned (.bool true) ∧ Below w.heap.size w w' := by
  have hp := parse_any wakeB w (by decide) hP
  have hp2 : Calls Tryz.prog 25 #[.string ⟨#[110, 32, 37, 32, 49, 48, 32, 61, 32, 50, 46, 46, 52, 32, 97, 110, 100, 32, 110, 32, 37, 32, 49, 48, 48, 32, 33, 61, 32, 49, 50, 46, 46, 49, 52]⟩] w fun e w' => (∃ v, e = .returned (.tuple #[v, .agg #[.int .i64 0, .int .i64 0]]) ∧ RuleAt w' v wakeB wakeR) ∧ Below w.heap.size w w' := hp.mono fun e w' ⟨h1, h2⟩ => by
    rw [wake_rule] at h1
    obtain ⟨v, h1, h3⟩ := h1
    exact ⟨⟨v, h1, h3.is⟩, h2⟩
  have r23 : rightB false (digs 23) ((0 : Nat) : Int) = true := by kernel_rfl
  have r12 : rightB false (digs 12) ((0 : Nat) : Int) = true := by kernel_rfl
  clear hp
  go_enter Tryz.func11, Tryz.ntmps11
  go_wp2_with fail
  refine hp2.mono ?_
  rintro e w1 ⟨⟨v, rfl, hv⟩, hB1⟩
  have hA1 := (Below.refl w1.heap.size w1).alloc (Nat.le_refl _) (.cells #[.int .i64 0, .int .i64 0] 53)
  have hB2 := hB1.trans (hA1.mono hB1.size)
  have h23 := of_nat 23 (by decide) _ (hP.on hB2)
  obtain ⟨b, fv, rfl, hvk⟩ := id hv
  clear hp2 hvk
  go_wp2_with fail
  refine h23.mono ?_
  rintro e w2 ⟨rfl, hB3⟩
  have hB4 := hB2.trans (hB3.mono hB2.size)
  have hv2 := (hv.on hA1).on hB3
  have hh := holds_yes r23 _ _ _ w2 hv2 (hP.on hB4)
  rw [wake_23] at hh
  go_wp2_with fail
  refine hh.mono ?_
  rintro e w3 ⟨rfl, hB5⟩
  have hB6 := hB4.trans (hB5.mono hB4.size)
  have hv3 := hv2.on hB5
  have h12 := of_nat 12 (by decide) _ (hP.on hB6)
  go_wp2_with fail
  refine h12.mono ?_
  rintro e w4 ⟨rfl, hB7⟩
  have hB8 := hB6.trans (hB7.mono hB6.size)
  have hh2 := holds_yes r12 _ _ _ w4 (hv3.on hB7) (hP.on hB8)
  rw [wake_12] at hh2
  go_wp2_with fail
  refine hh2.mono ?_
  rintro e w5 ⟨rfl, hB9⟩
  have hBa := hB8.trans (hB9.mono hB8.size)
  have hi := is_any ⟨#[102, 101, 119]⟩ w5 (hTon _ hBa)
  rw [wake_few] at hi
  go_wp2_with fail
  refine hi.mono ?_
  rintro e w6 ⟨rfl, hBb⟩
  go_wp2_with fail
  go_ret
  exact ⟨rfl, hBa.trans (hBb.mono hBa.size)⟩
end Go.Proofs.YtgbemhehbhlgpaaGreatDoor
