/-
  Patterns of dates: the walk of Parse, the pass from its label.
-/
import Derived.Test.YtbnhfjhhbgmhfaaDoorDpU
import Derived.Test.YtbnhfjhhbgmhfaaDoorJumps
namespace Go.Proofs.YtbnhfjhhbgmhfaaDoor
open Go.RowKit Go.PlainAid

/-- What holds at the label of Parse: i bytes are read, the fields l lie in v. -/
def DpJ (s : ByteArray) (b0 : Nat) (W0 : World) (a : Act) (w' : World) : Prop :=
  ∃ (i : Nat) (l : List PF) (v : Value), a.defers = [] ∧ a.tmps.size = 114 ∧ a.tmps.getD 0 undef = .string s ∧ a.tmps.getD 3 undef = .pointer (some ⟨b0, 0, none⟩) ∧ a.tmps.getD 5 undef = v ∧ a.tmps.getD 6 undef = .int .i64 i ∧
    i ≤ s.size ∧ pR s 0 [] = pR s i l ∧ l.length ≤ i ∧ (∀ x ∈ l, x.2.2.size ≤ i) ∧ PFRow W0.heap.size w' v l ∧ Below W0.heap.size W0 w'
/-- What holds at the end of Parse. -/
def DpE (s : ByteArray) (b0 : Nat) (e : Ending) (w' : World) : Prop :=
  ∃ v', e = .returned (.tuple #[v', .agg #[.int .i64 (pR s 0 []).2.1, .int .i64 (pR s 0 []).2.2]]) ∧ PFRow b0 w' v' (pR s 0 []).1
noncomputable def inScope : Code → Code
  | .scope c => c
  | .seq _ c => inScope c
  | c => c
noncomputable def dpCode : Code := inScope (Tryd.f12.body.getD .skip)
noncomputable def dpAfter : Code := (findLabel dpCode 0).getD .skip

theorem spot_held {b0 : Nat} {W0 w : World} {a b : Int} (hb : b0 < W0.heap.size) (hc : W0.cell? ⟨b0, 0, none⟩ = some (.int .i64 a) ∧ W0.cell? ⟨b0, 1, none⟩ = some (.int .i64 b) ∧ W0.frozen? ⟨b0, 0, none⟩ = false ∧ W0.frozen? ⟨b0, 1, none⟩ = false) (hB : Below W0.heap.size W0 w) :
    w.cell? ⟨b0, 0, none⟩ = some (.int .i64 a) ∧ w.cell? ⟨b0, 1, none⟩ = some (.int .i64 b) ∧ w.frozen? ⟨b0, 0, none⟩ = false ∧ w.frozen? ⟨b0, 1, none⟩ = false :=
  ⟨(hB.cell (p := ⟨b0, 0, none⟩) hb).trans hc.1, (hB.cell (p := ⟨b0, 1, none⟩) hb).trans hc.2.1, (hB.frozen (p := ⟨b0, 0, none⟩) hb).trans hc.2.2.1, (hB.frozen (p := ⟨b0, 1, none⟩) hb).trans hc.2.2.2⟩

theorem PFRow.other {base : Nat} {w : World} {v : Value} {l : List PF} (h : PFRow base w v l) {p : Addr} (hp : p.block < base) (x : Value) : PFRow base (w.setCell p x) v l :=
  ownsRow_setCell_other h (fun e => by have := h.own _ e; omega) x
theorem dpE_bad {s : ByteArray} {b0 : Nat} {w' : World} {k i : Int} (h : pR s 0 [] = ([], k, i)) : DpE s b0 (.returned (.tuple #[.slice none 0 0, .agg #[.int .i64 k, .int .i64 i]])) w' :=
  ⟨.slice none 0 0, by rw [h], by rw [h]; exact PFRow.nil _ _⟩

set_option maxRecDepth 100000 in
set_option maxHeartbeats 4000000 in
theorem dp_pass' : ∃ c, findLabel dpCode 0 = some (.seq .skip c) ∧ ∀ (s : ByteArray) (b0 : Nat) (w0 W0 : World), s.size ≤ 4096 → b0 < W0.heap.size → Below b0 w0 W0 →
    (W0.cell? ⟨b0, 0, none⟩ = some (.int .i64 0) ∧ W0.cell? ⟨b0, 1, none⟩ = some (.int .i64 0) ∧ W0.frozen? ⟨b0, 0, none⟩ = false ∧ W0.frozen? ⟨b0, 1, none⟩ = false) →
    ∀ (Q : Exit → Act → World → Prop) (a : Act) (w' : World), DpJ s b0 W0 a w' →
    (∀ a w', bodyPost Tryd.prog Tryd.f12 (fun e w' => DpE s b0 e w' ∧ Below b0 w0 w') .ret a w' → Q .ret a w') →
    (∀ a2 w2, DpJ s b0 W0 a2 w2 → intOf (a.tmps.getD 6 undef) < intOf (a2.tmps.getD 6 undef) → Q (.goto 0) a2 w2) → c.wp Tryd.prog Q a w' := by
  refine ⟨_, rfl, ?_⟩
  rintro s b0 w0 W0 hs hb0 hBw0 hc0 Q ⟨t, df⟩ w ⟨i, l, v, hdf, hsz, g0, g3, g5, g6, hi, hpr, hll, hlx, hrow, hB⟩ hQ hG
  obtain ⟨f, hf, rfl⟩ := lit114 t hsz
  simp only at hdf g0 g3 g5 g6 hG
  rw [hf] at g0 g3 g5 g6 hG
  rw [g6] at hG
  subst hdf
  have HQ := Lib.hid hQ; have HG := Lib.hid hG; have HP := Lib.hid hpr; have HX := Lib.hid hlx
  obtain ⟨c0, c1, f0, f1⟩ := spot_held hb0 hc0 hB
  have hzB := hB.size
  have hb1 : b0 < w.heap.size := by omega
  rw [g0, g3, g5, g6]
  clear hQ hG hpr hlx hf hsz g0 g3 g5 g6
  by_cases hlt : i < s.size
  · have hbi : ((s[i]'hlt).toNat : Int) = bt s i := by unfold bt; rw [dif_pos hlt]
    have hne : ((i : Int) == (s.size : Int)) = false := by simp; omega
    have hst := pR_step (l := l) hlt
    have HS := Lib.hid hst
    have hlet := fun W => letter_any (bt s i) W
    clear hst
    by_cases hL : bLetter (bt s i) = true
    · rw [hL] at hlet
      have HL := Lib.hid hL
      have hrn := runTo_go hlt (rfl : bt s i = bt s i)
      have HRN := Lib.hid hrn
      have hrk := fun W => rank_any (bt s i) W
      have hrle := rankB_le (bt s i)
      have hmo := fun W => most_any (rankB (bt s i)) hrle W
      have hm9 := mostN_le (rankB (bt s i))
      clear hrn hL
      go_wp2_with fail
      refine (hlet _).mono ?_
      rintro e w1 ⟨rfl, rfl⟩
      clear hlet
      go_wp2_with fail
      go_loopg [8] (s.size - (i + 1)) (fun g s8 wr => ∃ m : Nat, 1 ≤ m ∧ i + m + g = s.size ∧ s8 = .int .i64 (m : Int) ∧ runTo s (bt s i) i = runTo s (bt s i) (i + m) ∧ wr = w)
      case atStart => exact ⟨1, Nat.le_refl _, by omega, rfl, HRN.out, rfl⟩
      case round =>
        obtain ⟨m, hm, hg, rfl, hr, rfl⟩ := hrel
        have HR := Lib.hid hr
        clear hr
        by_cases hgo : i + m < s.size ∧ bt s (i + m) = bt s i
        · obtain ⟨hl, he⟩ := hgo
          have hbm : ((s[i + m]'hl).toNat : Int) = bt s (i + m) := by unfold bt; rw [dif_pos hl]
          have hnew := runTo_go hl he
          have HN := Lib.hid hnew
          have hbe : (bt s (i + m) == bt s i) = true := by simpa using he
          have hlI : (i : Int) + m < s.size := by omega
          clear hnew he
          go_wp2_with fail
          go_roundg (gk - 1)
          case rel => exact ⟨m + 1, by omega, by omega, by push_cast; rfl, by rw [HR.out, HN.out]; rfl, rfl⟩
          case measure => omega
        · have hnew := runTo_stop hgo
          have hend : runTo s (bt s i) i = i + m := by rw [HR.out, hnew]
          have hst2 := HS.out
          rw [if_pos HL.out, hend, show i + m - i = m by omega] at hst2
          clear HS HR hnew hend
          have hbig : ∀ h : i + m < s.size, (bt s (i + m) == bt s i) = false ∧ ((s[i + m]'h).toNat : Int) = bt s (i + m) := fun h => ⟨by simpa using fun e => hgo ⟨h, e⟩, by unfold bt; rw [dif_pos h]⟩
          have hm0 : (0 : Int) ≤ m := by omega
          by_cases hbad : rankB (bt s i) = 0 ∨ mostN (rankB (bt s i)) < m
          · rw [if_pos hbad] at hst2
            have HS2 := Lib.hid hst2
            clear hst2 hgo
            generalize hrr : rankB (bt s i) = r at *
            clear hrr
            by_cases hr0 : r = 0
            · have hrI : ((r : Int) == 0) = true := by simp [hr0]
              by_cases hl : i + m < s.size
              · obtain ⟨hbe, hbm⟩ := hbig hl
                have hlI : (i : Int) + m < s.size := by omega
                clear hbig
                clear hbad hmo
                go_wp2_with fail
                refine (hrk _).mono ?_
                rintro e w1 ⟨rfl, rfl⟩
                clear hrk
                go_wp2_with fail
                refine HQ.out _ _ (bodyPost_ret (v := .tuple #[.slice none 0 0, .agg #[.int .i64 270, .int .i64 i]]) (by simp [results, Tryd.results12, go_sem, c0, c1]) rfl ⟨dpE_bad (by rw [HP.out, HS2.out]), ?_⟩)
                exact ((hBw0.trans (hB.mono (Nat.le_of_lt hb0))).setCell (p := ⟨b0, 0, none⟩) (Nat.le_refl _) _).setCell (p := ⟨b0, 1, none⟩) (Nat.le_refl _) _
              · have hlI : ¬ (i : Int) + m < s.size := by omega
                clear hbig
                clear hbad hmo
                go_wp2_with fail
                refine (hrk _).mono ?_
                rintro e w1 ⟨rfl, rfl⟩
                clear hrk
                go_wp2_with fail
                refine HQ.out _ _ (bodyPost_ret (v := .tuple #[.slice none 0 0, .agg #[.int .i64 270, .int .i64 i]]) (by simp [results, Tryd.results12, go_sem, c0, c1]) rfl ⟨dpE_bad (by rw [HP.out, HS2.out]), ?_⟩)
                exact ((hBw0.trans (hB.mono (Nat.le_of_lt hb0))).setCell (p := ⟨b0, 0, none⟩) (Nat.le_refl _) _).setCell (p := ⟨b0, 1, none⟩) (Nat.le_refl _) _
            · have hrI : ((r : Int) == 0) = false := by simp [hr0]
              have hmI : (mostN r : Int) < m := by omega
              generalize mostN r = q at *
              clear hbad hr0
              by_cases hl : i + m < s.size
              · obtain ⟨hbe, hbm⟩ := hbig hl
                have hlI : (i : Int) + m < s.size := by omega
                clear hbig
                go_wp2_with fail
                refine (hrk _).mono ?_
                rintro e w1 ⟨rfl, rfl⟩
                go_wp2_with fail
                refine (hrk _).mono ?_
                rintro e w1 ⟨rfl, rfl⟩
                clear hrk
                go_wp2_with fail
                refine (hmo _).mono ?_
                rintro e w1 ⟨rfl, rfl⟩
                clear hmo
                go_wp2_with fail
                refine HQ.out _ _ (bodyPost_ret (v := .tuple #[.slice none 0 0, .agg #[.int .i64 270, .int .i64 i]]) (by simp [results, Tryd.results12, go_sem, c0, c1]) rfl ⟨dpE_bad (by rw [HP.out, HS2.out]), ?_⟩)
                exact ((hBw0.trans (hB.mono (Nat.le_of_lt hb0))).setCell (p := ⟨b0, 0, none⟩) (Nat.le_refl _) _).setCell (p := ⟨b0, 1, none⟩) (Nat.le_refl _) _
              · have hlI : ¬ (i : Int) + m < s.size := by omega
                clear hbig
                go_wp2_with fail
                refine (hrk _).mono ?_
                rintro e w1 ⟨rfl, rfl⟩
                go_wp2_with fail
                refine (hrk _).mono ?_
                rintro e w1 ⟨rfl, rfl⟩
                clear hrk
                go_wp2_with fail
                refine (hmo _).mono ?_
                rintro e w1 ⟨rfl, rfl⟩
                clear hmo
                go_wp2_with fail
                refine HQ.out _ _ (bodyPost_ret (v := .tuple #[.slice none 0 0, .agg #[.int .i64 270, .int .i64 i]]) (by simp [results, Tryd.results12, go_sem, c0, c1]) rfl ⟨dpE_bad (by rw [HP.out, HS2.out]), ?_⟩)
                exact ((hBw0.trans (hB.mono (Nat.le_of_lt hb0))).setCell (p := ⟨b0, 0, none⟩) (Nat.le_refl _) _).setCell (p := ⟨b0, 1, none⟩) (Nat.le_refl _) _
          · rw [if_neg hbad] at hst2
            have HS2 := Lib.hid hst2
            have hr0 : ¬ rankB (bt s i) = 0 := fun h => hbad (.inl h)
            have hmI : ¬ (mostN (rankB (bt s i)) : Int) < m := by omega
            have hrI : ((rankB (bt s i) : Int) == 0) = false := by simp [hr0]
            clear hst2 hgo hbad hr0
            generalize rankB (bt s i) = r at *
            generalize mostN r = q at *
            by_cases hl : i + m < s.size
            · obtain ⟨hbe, hbm⟩ := hbig hl
              have hlI : (i : Int) + m < s.size := by omega
              clear hbig
              go_wp2_with fail
              refine (hrk _).mono ?_
              rintro e w1 ⟨rfl, rfl⟩
              go_wp2_with fail
              refine (hrk _).mono ?_
              rintro e w1 ⟨rfl, rfl⟩
              clear hrk
              go_wp2_with fail
              refine (hmo _).mono ?_
              rintro e w1 ⟨rfl, rfl⟩
              clear hmo
              go_wp2_with (at_builtin; go_must (refine wpList_snoc_pf (x := (bt s i, (m : Int), ⟨#[]⟩)) rfl _ _ rfl W0.heap.size v l rfl hrow _ rfl rfl (by omega) hB (Nat.le_refl _) hzB ?_); intro v' w2 hrow2 hB2)
              refine wp_goto (HG.out _ _ ⟨i + m, l ++ [(bt s i, (m : Int), ⟨#[]⟩)], v', rfl, rfl, rfl, rfl, rfl, ?_, by omega, by rw [HP.out, HS2.out], by simp; omega, snoc_size HX.out (Nat.zero_le _) (by omega), hrow2, hB2⟩ ?_)
              · exact congrArg (Value.int .i64) (by push_cast; rfl)
              · simp [intOf, Array.getD]; omega
            · have hlI : ¬ (i : Int) + m < s.size := by omega
              clear hbig
              go_wp2_with fail
              refine (hrk _).mono ?_
              rintro e w1 ⟨rfl, rfl⟩
              go_wp2_with fail
              refine (hrk _).mono ?_
              rintro e w1 ⟨rfl, rfl⟩
              clear hrk
              go_wp2_with fail
              refine (hmo _).mono ?_
              rintro e w1 ⟨rfl, rfl⟩
              clear hmo
              go_wp2_with (at_builtin; go_must (refine wpList_snoc_pf (x := (bt s i, (m : Int), ⟨#[]⟩)) rfl _ _ rfl W0.heap.size v l rfl hrow _ rfl rfl (by omega) hB (Nat.le_refl _) hzB ?_); intro v' w2 hrow2 hB2)
              refine wp_goto (HG.out _ _ ⟨i + m, l ++ [(bt s i, (m : Int), ⟨#[]⟩)], v', rfl, rfl, rfl, rfl, rfl, ?_, by omega, by rw [HP.out, HS2.out], by simp; omega, snoc_size HX.out (Nat.zero_le _) (by omega), hrow2, hB2⟩ ?_)
              · exact congrArg (Value.int .i64) (by push_cast; rfl)
              · simp [intOf, Array.getD]; omega
    · have hLf : bLetter (bt s i) = false := by simpa using hL
      rw [hLf] at hlet
      have hst2 := HS.out
      rw [if_neg hL] at hst2
      have hpx := fun W => Tryd.strings_HasPrefix (s.extract i s.size) ⟨#[39, 39]⟩ W
      have hl4 : l.length ≤ 1000000 := by omega
      have hx4 : ∀ x ∈ l, x.2.2.size ≤ 1000000 := fun x hx => by have := HX.out x hx; omega
      have hputx := fun T W hr hb ht => put_text W0.heap.size v l T W hr hb hl4 ht hx4
      have HPUT := Lib.hid hputx
      have hi0 : (0 : Int) ≤ (i : Int) + 1 := by omega
      have hi1 : ((i : Int) + 1).toNat = i + 1 := by omega
      have hi2 : (i : Int) + 1 ≤ s.size := by omega
      change ∀ W, Calls _ _ _ _ (fun e w' => e = .returned (.bool (Lib.hasPrefix (s.extract i s.size).data.toList [39, 39])) ∧ w' = W) at hpx
      rw [two_quotes s i hlt] at hpx
      clear hL hLf HS hx4 hl4 hputx
      by_cases h39 : bt s i = 39
      · rw [if_neg (by simp [h39])] at hst2
        have h39b : (bt s i == 39) = true := by simp [h39]
        by_cases h2 : i + 1 < s.size ∧ bt s (i + 1) = 39
        · rw [if_pos h2] at hst2
          have HS2 := Lib.hid hst2
          rw [decide_eq_true ⟨h39, h2.1, h2.2⟩] at hpx
          have h21 := h2.1
          clear hst2 h2 h39 h39b
          go_wp2_with fail
          refine (hlet _).mono ?_
          rintro e w1 ⟨rfl, rfl⟩
          clear hlet
          go_wp2_with fail
          refine (hpx _).mono ?_
          rintro e w1 ⟨rfl, rfl⟩
          clear hpx
          go_wp2_with fail
          refine (HPUT.out ⟨#[39]⟩ _ hrow hzB (by decide)).mono ?_
          rintro e w2 ⟨v', rfl, hrow2, hB2⟩
          go_wp2_with fail
          refine wp_goto (HG.out _ _ ⟨i + 2, putR l ⟨#[39]⟩, v', rfl, rfl, rfl, rfl, rfl, ?_, by omega, by rw [HP.out, HS2.out], ?_, putR_size HX.out (by show 1 + i ≤ i + 2; omega), hrow2, hB.trans hB2⟩ ?_)
          · exact congrArg (Value.int .i64) (by push_cast; rfl)
          · have := putR_length l ⟨#[39]⟩; omega
          · simp [intOf, Array.getD]; omega
        · rw [if_neg h2] at hst2
          rw [decide_eq_false (fun h => h2 h.2)] at hpx
          have hqt := fun W => quoted_any (s.extract (i + 1) s.size) W (by simp; omega)
          rw [qR_rest s (i + 1) (by omega) _ 0 ⟨#[]⟩ rfl] at hqt
          clear h2 h39
          cases hq : qR s (i + 1) ⟨#[]⟩ with
          | none =>
            have hq' : qR s (i + 1 + 0) ⟨#[]⟩ = none := hq
            rw [hq] at hst2
            rw [hq'] at hqt
            change ∀ W, Calls _ _ _ _ (fun e w' => e = .returned (.tuple #[.string ⟨#[]⟩, .int .i64 (-1)]) ∧ Below W.heap.size W w') at hqt
            have HS2 := Lib.hid hst2
            clear hst2 hq hq'
            go_wp2_with fail
            refine (hlet _).mono ?_
            rintro e w1 ⟨rfl, rfl⟩
            clear hlet
            go_wp2_with fail
            refine (hpx _).mono ?_
            rintro e w1 ⟨rfl, rfl⟩
            clear hpx
            go_wp2_with fail
            refine (hqt _).mono ?_
            rintro e w2 ⟨rfl, hB2⟩
            have hB3 := hB.trans (hB2.mono hzB)
            obtain ⟨c0, c1, f0, f1⟩ := spot_held hb0 hc0 hB3
            have hzB3 := hB3.size
            go_wp2_with fail
            refine HQ.out _ _ (bodyPost_ret (v := .tuple #[.slice none 0 0, .agg #[.int .i64 271, .int .i64 i]]) (by simp [results, Tryd.results12, go_sem, c0, c1]) rfl ⟨dpE_bad (by rw [HP.out, HS2.out]), ?_⟩)
            exact ((hBw0.trans (hB3.mono (Nat.le_of_lt hb0))).setCell (p := ⟨b0, 0, none⟩) (Nat.le_refl _) _).setCell (p := ⟨b0, 1, none⟩) (Nat.le_refl _) _
          | some x =>
            obtain ⟨T, j⟩ := x
            have hq' : qR s (i + 1 + 0) ⟨#[]⟩ = some (T, j) := hq
            obtain ⟨j1, j2, j3, j4⟩ := qR_some _ _ _ _ _ rfl hq
            rw [hq] at hst2
            simp only at hst2
            rw [hq'] at hqt
            change ∀ W, Calls _ _ _ _ (fun e w' => e = .returned (.tuple #[.string T, .int .i64 ((j - (i + 1) : Nat) : Int)]) ∧ Below W.heap.size W w') at hqt
            have HS2 := Lib.hid hst2
            obtain ⟨n, rfl⟩ : ∃ n, j = i + 1 + n := ⟨j - (i + 1), by omega⟩
            rw [show i + 1 + n - (i + 1) = n by omega] at hqt
            have hT0 : T.size ≤ n := by rw [show (⟨#[]⟩ : ByteArray).size = 0 from rfl] at j4; omega
            clear hst2 hq hq' j3 j4 j1
            go_wp2_with fail
            refine (hlet _).mono ?_
            rintro e w1 ⟨rfl, rfl⟩
            clear hlet
            go_wp2_with fail
            refine (hpx _).mono ?_
            rintro e w1 ⟨rfl, rfl⟩
            clear hpx
            go_wp2_with fail
            refine (hqt _).mono ?_
            rintro e w2 ⟨rfl, hB2⟩
            clear hqt
            have hB3 := hB.trans (hB2.mono hzB)
            have hrow3 := hrow.later hB2
            have hzB3 := hB3.size
            go_wp2_with fail
            refine (HPUT.out T _ hrow3 hzB3 (by omega)).mono ?_
            rintro e w3 ⟨v', rfl, hrow4, hB4⟩
            go_wp2_with fail
            refine wp_goto (HG.out _ _ ⟨i + 1 + n, putR l T, v', rfl, rfl, rfl, rfl, rfl, ?_, by omega, by rw [HP.out, HS2.out], ?_, putR_size HX.out (by omega), hrow4, hB3.trans hB4⟩ ?_)
            · exact congrArg (Value.int .i64) (by omega)
            · have := putR_length l T; omega
            · simp [intOf, Array.getD]; omega
      · rw [if_pos h39] at hst2
        have HS2 := Lib.hid hst2
        rw [decide_eq_false (fun h => h39 h.1)] at hpx
        have h39b : (bt s i == 39) = false := by simpa using h39
        have hTz : (s.extract i (i + 1)).size = 1 := by simp; omega
        have HTZ := Lib.hid hTz
        clear hst2 h39 hTz
        go_wp2_with fail
        refine (hlet _).mono ?_
        rintro e w1 ⟨rfl, rfl⟩
        clear hlet
        go_wp2_with fail
        refine (hpx _).mono ?_
        rintro e w1 ⟨rfl, rfl⟩
        clear hpx
        go_wp2_with fail
        refine (HPUT.out (s.extract i (i + 1)) _ hrow hzB (by rw [HTZ.out]; decide)).mono ?_
        rintro e w2 ⟨v', rfl, hrow2, hB2⟩
        go_wp2_with fail
        refine wp_goto (HG.out _ _ ⟨i + 1, putR l (s.extract i (i + 1)), v', rfl, rfl, rfl, rfl, rfl, ?_, by omega, by rw [HP.out, HS2.out], ?_, putR_size HX.out (by rw [HTZ.out]; omega), hrow2, hB.trans hB2⟩ ?_)
        · exact congrArg (Value.int .i64) (by push_cast; rfl)
        · have := putR_length l (s.extract i (i + 1)); omega
        · simp [intOf, Array.getD]; omega
  · have hie : i = s.size := by omega
    have hend := pR_end (l := l) hlt
    have HE := Lib.hid hend
    clear hend hlt
    subst hie
    go_wp2_with fail
    refine HQ.out _ _ (bodyPost_ret (v := .tuple #[v, .agg #[.int .i64 0, .int .i64 0]]) (by simp [results, Tryd.results12, go_sem, c0, c1]) rfl ⟨⟨v, by rw [HP.out, HE.out], ?_⟩, ?_⟩)
    · rw [HP.out, HE.out]
      exact ((hrow.other (p := ⟨b0, 0, none⟩) hb0 _).other (p := ⟨b0, 1, none⟩) hb0 _).mono (Nat.le_of_lt hb0)
    · exact ((hBw0.trans (hB.mono (Nat.le_of_lt hb0))).setCell (p := ⟨b0, 0, none⟩) (Nat.le_refl _) _).setCell (p := ⟨b0, 1, none⟩) (Nat.le_refl _) _
end Go.Proofs.YtbnhfjhhbgmhfaaDoor
