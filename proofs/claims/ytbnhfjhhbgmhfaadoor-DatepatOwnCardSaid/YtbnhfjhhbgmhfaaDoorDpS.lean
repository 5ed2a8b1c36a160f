/-
  Patterns of dates: skeletons are read: the program's and the reference's.
-/
import Derived.Test.YtbnhfjhhbgmhfaaDoorDpO
namespace Go.Proofs.YtbnhfjhhbgmhfaaDoor
open Go.RowKit Go.PlainAid

theorem dpRow_bad {b0 : Nat} {w' : World} {r : List PF × Int × Int} {k i : Int} (h : r = ([], k, i)) : DpR b0 r (.returned (.tuple #[.slice none 0 0, .agg #[.int .i64 k, .int .i64 i]])) w' := dpR_bad h
theorem sk_rank {s : ByteArray} {i p : Nat} {n : Nat} (h : ¬ (rankB (bt s i) ≤ p ∨ rankB (bt s i) = 8 ∨ mostN (rankB (bt s i)) < n)) : p < rankB (bt s i) ∧ rankB (bt s i) ≠ 8 ∧ n ≤ mostN (rankB (bt s i)) := by omega

set_option maxRecDepth 100000 in
set_option maxHeartbeats 4000000 in
theorem skel_any (s : ByteArray) (w : World) (hs : s.size ≤ 1000000000000000) :
    Calls Tryd.prog 51 #[.string s] w fun e w' => DpR w.heap.size (skel s) e w' ∧ Below w.heap.size w w' := by
  have hB0 := (Below.refl w.heap.size w).alloc (Nat.le_refl _) (.cells #[.int .i64 0, .int .i64 0] 26)
  have sp := Blk.new w #[.int .i64 0, .int .i64 0] 26
  by_cases hbig : 64 < s.size
  · have hr : skel s = ([], 3, 0) := if_pos hbig
    have hbI : (64 : Int) < s.size := by omega
    have HR := Lib.hid hr
    clear hr hbig sp
    go_enter Tryd.func51, Tryd.ntmps51
    go_wp2_with fail
    refine bodyPost_ret (v := .tuple #[.slice none 0 0, .agg #[.int .i64 3, .int .i64 0]]) (by simp [results, Tryd.results51, go_sem]) rfl ⟨dpR_bad (by rw [HR.out]), ?_⟩
    exact (Below.refl w.heap.size w).alloc (Nat.le_refl _) _
  · have hbI : ¬ (64 : Int) < s.size := by omega
    have hs4 : s.size ≤ 64 := by omega
    have hr : skel s = sR s 0 0 [] := if_neg hbig
    have HR := Lib.hid hr
    clear hr hbig
    go_enter Tryd.func51, Tryd.ntmps51
    go_wp2_with fail
    have hlt0 := sp.lt
    have hcs : (w.alloc (.cells #[.int .i64 0, .int .i64 0] 26)).cell? ⟨w.heap.size, 0, none⟩ = some (.int .i64 0) ∧ (w.alloc (.cells #[.int .i64 0, .int .i64 0] 26)).cell? ⟨w.heap.size, 1, none⟩ = some (.int .i64 0) ∧ (w.alloc (.cells #[.int .i64 0, .int .i64 0] 26)).frozen? ⟨w.heap.size, 0, none⟩ = false ∧ (w.alloc (.cells #[.int .i64 0, .int .i64 0] 26)).frozen? ⟨w.heap.size, 1, none⟩ = false := ⟨sp.cell 0, sp.cell 1, sp.free 0, sp.free 1⟩
    clear sp
    generalize hW0 : w.alloc (.cells #[.int .i64 0, .int .i64 0] 26) = W0 at *
    clear hW0
    have HCS := Lib.hid hcs
    clear hcs
    go_loopg [4, 5, 6] s.size (fun g s4 s5 s6 wr => ∃ (i p : Nat) (l : List PF), s5 = .int .i64 (p : Int) ∧ s6 = .int .i64 (i : Int) ∧ g = s.size - i ∧ i ≤ s.size ∧ sR s 0 0 [] = sR s i p l ∧ l.length ≤ i ∧ PFRow W0.heap.size wr s4 l ∧ Below W0.heap.size W0 wr)
    case atStart => exact ⟨0, 0, [], rfl, rfl, rfl, Nat.zero_le _, rfl, Nat.le_refl _, PFRow.nil _ _, Below.refl _ _⟩
    case round =>
      obtain ⟨i, p, l, rfl, rfl, hg, hi, hpr, hll, hrow, hB⟩ := hrel
      have HP := Lib.hid hpr
      have hzB := hB.size
      obtain ⟨c0, c1, f0, f1⟩ := spot_held hlt0 HCS.out hB
      have hb1 : w.heap.size < wr.heap.size := by omega
      clear hpr
      by_cases hlt : i < s.size
      · have hbi : ((s[i]'hlt).toNat : Int) = bt s i := by unfold bt; rw [dif_pos hlt]
        have hst := sR_step (p := p) (l := l) hlt
        have HS := Lib.hid hst
        have hrn := runTo_go hlt (rfl : bt s i = bt s i)
        have HRN := Lib.hid hrn
        have hrk := fun W => rank_any (bt s i) W
        have hrle := rankB_le (bt s i)
        have hmo := fun W => most_any (rankB (bt s i)) hrle W
        have hm9 := mostN_le (rankB (bt s i))
        have hpl := fun W => plain_any (bt s i) W
        clear hrn hst
        go_wp2_with fail
        obtain ⟨wo, rfl⟩ : ∃ wo : World, wo = wr := ⟨_, rfl⟩
        go_loopg [8] (s.size - (i + 1)) (fun g s8 wx => ∃ m : Nat, 1 ≤ m ∧ i + m + g = s.size ∧ s8 = .int .i64 (m : Int) ∧ runTo s (bt s i) i = runTo s (bt s i) (i + m) ∧ wx = wo)
        case atStart => exact ⟨1, Nat.le_refl _, by omega, rfl, HRN.out, rfl⟩
        case round =>
          obtain ⟨m, hm, hg2, rfl, hr, rfl⟩ := hrel
          have HRR := Lib.hid hr
          clear hr
          by_cases hgo : i + m < s.size ∧ bt s (i + m) = bt s i
          · obtain ⟨hl, he⟩ := hgo
            have hbm : ((s[i + m]'hl).toNat : Int) = bt s (i + m) := by unfold bt; rw [dif_pos hl]
            have hnew := runTo_go hl he
            have HN := Lib.hid hnew
            have hbe : (bt s (i + m) == bt s i) = true := by simpa using he
            have hlI : (i : Int) + m < s.size := by omega
            clear hnew he
            go_wp2_with fail
            go_roundg (gk - 1)
            case rel => exact ⟨m + 1, by omega, by omega, by push_cast; rfl, by rw [HRR.out, HN.out]; rfl, rfl⟩
            case measure => omega
          · have hnew := runTo_stop hgo
            have hend : runTo s (bt s i) i = i + m := by rw [HRR.out, hnew]
            have hst2 := HS.out
            rw [hend, show i + m - i = m by omega] at hst2
            clear HS HRR hnew hend
            have hbig : ∀ h : i + m < s.size, (bt s (i + m) == bt s i) = false ∧ ((s[i + m]'h).toNat : Int) = bt s (i + m) := fun h => ⟨by simpa using fun e => hgo ⟨h, e⟩, by unfold bt; rw [dif_pos h]⟩
            have hm0 : (0 : Int) ≤ m := by omega
            by_cases hbad : rankB (bt s i) ≤ p ∨ rankB (bt s i) = 8 ∨ mostN (rankB (bt s i)) < m
            · rw [if_pos hbad] at hst2
              have HS2 := Lib.hid hst2
              clear hst2 hgo
              generalize rankB (bt s i) = r at *
              by_cases hrp : r ≤ p
              · have hrI : (r : Int) ≤ p := by omega
                clear hbad hmo
                by_cases hl : i + m < s.size
                · obtain ⟨hbe, hbm⟩ := hbig hl
                  have hlI : (i : Int) + m < s.size := by omega
                  clear hbig
                  go_wp2_with fail
                  refine (hrk _).mono ?_
                  rintro e w1 ⟨rfl, rfl⟩
                  go_wp2_with fail
                  refine bodyPost_ret (v := .tuple #[.slice none 0 0, .agg #[.int .i64 272, .int .i64 i]]) (by simp [results, Tryd.results51, go_sem, c0, c1]) rfl ⟨dpR_bad (by rw [HR.out, HP.out, HS2.out]), ?_⟩
                  exact (((hB0.trans (hB.mono (Nat.le_of_lt hlt0))).setCell (p := ⟨w.heap.size, 0, none⟩) (Nat.le_refl _) _).setCell (p := ⟨w.heap.size, 1, none⟩) (Nat.le_refl _) _)
                · have hlI : ¬ (i : Int) + m < s.size := by omega
                  clear hbig
                  go_wp2_with fail
                  refine (hrk _).mono ?_
                  rintro e w1 ⟨rfl, rfl⟩
                  go_wp2_with fail
                  refine bodyPost_ret (v := .tuple #[.slice none 0 0, .agg #[.int .i64 272, .int .i64 i]]) (by simp [results, Tryd.results51, go_sem, c0, c1]) rfl ⟨dpR_bad (by rw [HR.out, HP.out, HS2.out]), ?_⟩
                  exact (((hB0.trans (hB.mono (Nat.le_of_lt hlt0))).setCell (p := ⟨w.heap.size, 0, none⟩) (Nat.le_refl _) _).setCell (p := ⟨w.heap.size, 1, none⟩) (Nat.le_refl _) _)
              · have hrI : ¬ (r : Int) ≤ p := by omega
                by_cases hr8 : r = 8
                · have h8I : ((r : Int) == 8) = true := by simp; omega
                  clear hbad hmo
                  by_cases hl : i + m < s.size
                  · obtain ⟨hbe, hbm⟩ := hbig hl
                    have hlI : (i : Int) + m < s.size := by omega
                    clear hbig
                    go_wp2_with fail
                    refine (hrk _).mono ?_
                    rintro e w1 ⟨rfl, rfl⟩
                    go_wp2_with fail
                    refine bodyPost_ret (v := .tuple #[.slice none 0 0, .agg #[.int .i64 272, .int .i64 i]]) (by simp [results, Tryd.results51, go_sem, c0, c1]) rfl ⟨dpR_bad (by rw [HR.out, HP.out, HS2.out]), ?_⟩
                    exact (((hB0.trans (hB.mono (Nat.le_of_lt hlt0))).setCell (p := ⟨w.heap.size, 0, none⟩) (Nat.le_refl _) _).setCell (p := ⟨w.heap.size, 1, none⟩) (Nat.le_refl _) _)
                  · have hlI : ¬ (i : Int) + m < s.size := by omega
                    clear hbig
                    go_wp2_with fail
                    refine (hrk _).mono ?_
                    rintro e w1 ⟨rfl, rfl⟩
                    go_wp2_with fail
                    refine bodyPost_ret (v := .tuple #[.slice none 0 0, .agg #[.int .i64 272, .int .i64 i]]) (by simp [results, Tryd.results51, go_sem, c0, c1]) rfl ⟨dpR_bad (by rw [HR.out, HP.out, HS2.out]), ?_⟩
                    exact (((hB0.trans (hB.mono (Nat.le_of_lt hlt0))).setCell (p := ⟨w.heap.size, 0, none⟩) (Nat.le_refl _) _).setCell (p := ⟨w.heap.size, 1, none⟩) (Nat.le_refl _) _)
                · have h8I : ((r : Int) == 8) = false := by simp; omega
                  have hmI : (mostN r : Int) < m := by omega
                  generalize mostN r = q at *
                  clear hbad hr8
                  by_cases hl : i + m < s.size
                  · obtain ⟨hbe, hbm⟩ := hbig hl
                    have hlI : (i : Int) + m < s.size := by omega
                    clear hbig
                    go_wp2_with fail
                    refine (hrk _).mono ?_
                    rintro e w1 ⟨rfl, rfl⟩
                    go_wp2_with fail
                    refine (hmo _).mono ?_
                    rintro e w1 ⟨rfl, rfl⟩
                    go_wp2_with fail
                    refine bodyPost_ret (v := .tuple #[.slice none 0 0, .agg #[.int .i64 272, .int .i64 i]]) (by simp [results, Tryd.results51, go_sem, c0, c1]) rfl ⟨dpR_bad (by rw [HR.out, HP.out, HS2.out]), ?_⟩
                    exact (((hB0.trans (hB.mono (Nat.le_of_lt hlt0))).setCell (p := ⟨w.heap.size, 0, none⟩) (Nat.le_refl _) _).setCell (p := ⟨w.heap.size, 1, none⟩) (Nat.le_refl _) _)
                  · have hlI : ¬ (i : Int) + m < s.size := by omega
                    clear hbig
                    go_wp2_with fail
                    refine (hrk _).mono ?_
                    rintro e w1 ⟨rfl, rfl⟩
                    go_wp2_with fail
                    refine (hmo _).mono ?_
                    rintro e w1 ⟨rfl, rfl⟩
                    go_wp2_with fail
                    refine bodyPost_ret (v := .tuple #[.slice none 0 0, .agg #[.int .i64 272, .int .i64 i]]) (by simp [results, Tryd.results51, go_sem, c0, c1]) rfl ⟨dpR_bad (by rw [HR.out, HP.out, HS2.out]), ?_⟩
                    exact (((hB0.trans (hB.mono (Nat.le_of_lt hlt0))).setCell (p := ⟨w.heap.size, 0, none⟩) (Nat.le_refl _) _).setCell (p := ⟨w.heap.size, 1, none⟩) (Nat.le_refl _) _)
            · rw [if_neg hbad] at hst2
              have HS2 := Lib.hid hst2
              have hgd := sk_rank hbad
              have hrp : ¬ (rankB (bt s i) : Int) ≤ p := by omega
              have hr8 : ((rankB (bt s i) : Int) == 8) = false := by simp; omega
              have hmI : ¬ (mostN (rankB (bt s i)) : Int) < m := by omega
              clear hst2 hgo hbad
              generalize rankB (bt s i) = r at *
              generalize mostN r = q at *
              by_cases hl : i + m < s.size
              · obtain ⟨hbe, hbm⟩ := hbig hl
                have hlI : (i : Int) + m < s.size := by omega
                clear hbig
                go_wp2_with fail
                refine (hrk _).mono ?_
                rintro e w1 ⟨rfl, rfl⟩
                go_wp2_with fail
                refine (hmo _).mono ?_
                rintro e w1 ⟨rfl, rfl⟩
                go_wp2_with fail
                refine (hpl _).mono ?_
                rintro e w1 ⟨rfl, rfl⟩
                go_wp2_with (at_builtin; go_must (refine wpList_snoc_pf (x := (plainB (bt s i), (m : Int), ⟨#[]⟩)) rfl _ _ rfl W0.heap.size u4 l rfl hrow _ rfl rfl (by omega) hB (Nat.le_refl _) hzB ?_); intro v' w2 hrow2 hB2)
                go_roundg (s.size - (i + m))
                case rel => exact ⟨i + m, r, l ++ [(plainB (bt s i), (m : Int), ⟨#[]⟩)], rfl, by push_cast; rfl, rfl, by omega, by rw [HP.out, HS2.out], by simp; omega, hrow2, hB2⟩
                case measure => omega
              · have hlI : ¬ (i : Int) + m < s.size := by omega
                clear hbig
                go_wp2_with fail
                refine (hrk _).mono ?_
                rintro e w1 ⟨rfl, rfl⟩
                go_wp2_with fail
                refine (hmo _).mono ?_
                rintro e w1 ⟨rfl, rfl⟩
                go_wp2_with fail
                refine (hpl _).mono ?_
                rintro e w1 ⟨rfl, rfl⟩
                go_wp2_with (at_builtin; go_must (refine wpList_snoc_pf (x := (plainB (bt s i), (m : Int), ⟨#[]⟩)) rfl _ _ rfl W0.heap.size u4 l rfl hrow _ rfl rfl (by omega) hB (Nat.le_refl _) hzB ?_); intro v' w2 hrow2 hB2)
                go_roundg (s.size - (i + m))
                case rel => exact ⟨i + m, r, l ++ [(plainB (bt s i), (m : Int), ⟨#[]⟩)], rfl, by push_cast; rfl, rfl, by omega, by rw [HP.out, HS2.out], by simp; omega, hrow2, hB2⟩
                case measure => omega
      · have hie : i = s.size := by omega
        have hend := sR_end (p := p) (l := l) hlt
        have HE := Lib.hid hend
        clear hend hlt
        subst hie
        go_wp2_with fail
        refine bodyPost_ret (v := .tuple #[u4, .agg #[.int .i64 0, .int .i64 0]]) (by simp [results, Tryd.results51, go_sem, c0, c1]) rfl ⟨⟨u4, by rw [HR.out, HP.out, HE.out], ?_⟩, ?_⟩
        · rw [HR.out, HP.out, HE.out]
          exact ((hrow.other (p := ⟨w.heap.size, 0, none⟩) hlt0 _).other (p := ⟨w.heap.size, 1, none⟩) hlt0 _).mono (Nat.le_of_lt hlt0)
        · exact (((hB0.trans (hB.mono (Nat.le_of_lt hlt0))).setCell (p := ⟨w.heap.size, 0, none⟩) (Nat.le_refl _) _).setCell (p := ⟨w.heap.size, 1, none⟩) (Nat.le_refl _) _)
end Go.Proofs.YtbnhfjhhbgmhfaaDoor
