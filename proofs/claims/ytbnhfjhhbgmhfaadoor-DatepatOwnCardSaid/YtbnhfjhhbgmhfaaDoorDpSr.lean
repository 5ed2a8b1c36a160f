/-
  Patterns of dates: skeletons are read: the reference's.
-/
import Derived.Test.YtbnhfjhhbgmhfaaDoorDpS
namespace Go.Proofs.YtbnhfjhhbgmhfaaDoor
open Go.RowKit Go.PlainAid

set_option maxRecDepth 100000 in
set_option maxHeartbeats 4000000 in
theorem rSkel_any (s : ByteArray) (w : World) (hs : s.size ≤ 1000000000000000) :
    Calls Tryd.prog 21 #[.string s] w fun e w' => DpR w.heap.size (skel s) e w' ∧ Below w.heap.size w w' := by
  have hB0 := (Below.refl w.heap.size w).alloc (Nat.le_refl _) (.cells #[.int .i64 0, .int .i64 0] 26)
  have sp := Blk.new w #[.int .i64 0, .int .i64 0] 26
  by_cases hbig : 64 < s.size
  · have hr : skel s = ([], 3, 0) := if_pos hbig
    have hbI : (64 : Int) < s.size := by omega
    have HR := Lib.hid hr
    clear hr hbig sp
    go_enter Tryd.func21, Tryd.ntmps21
    go_wp2_with fail
    refine bodyPost_ret (v := .tuple #[.slice none 0 0, .agg #[.int .i64 3, .int .i64 0]]) (by simp [results, Tryd.results21, go_sem]) rfl ⟨dpR_bad (by rw [HR.out]), ?_⟩
    exact (Below.refl w.heap.size w).alloc (Nat.le_refl _) _
  · have hbI : ¬ (64 : Int) < s.size := by omega
    have hs4 : s.size ≤ 64 := by omega
    have hr : skel s = sR s 0 0 [] := if_neg hbig
    have HR := Lib.hid hr
    clear hr hbig
    go_enter Tryd.func21, Tryd.ntmps21
    go_wp2_with fail
    have hlt0 := sp.lt
    have hcs : (w.alloc (.cells #[.int .i64 0, .int .i64 0] 26)).cell? ⟨w.heap.size, 0, none⟩ = some (.int .i64 0) ∧ (w.alloc (.cells #[.int .i64 0, .int .i64 0] 26)).cell? ⟨w.heap.size, 1, none⟩ = some (.int .i64 0) ∧ (w.alloc (.cells #[.int .i64 0, .int .i64 0] 26)).frozen? ⟨w.heap.size, 0, none⟩ = false ∧ (w.alloc (.cells #[.int .i64 0, .int .i64 0] 26)).frozen? ⟨w.heap.size, 1, none⟩ = false := ⟨sp.cell 0, sp.cell 1, sp.free 0, sp.free 1⟩
    clear sp
    generalize hW0 : w.alloc (.cells #[.int .i64 0, .int .i64 0] 26) = W0 at *
    clear hW0
    have HCS := Lib.hid hcs
    clear hcs
    go_loopg [4, 5, 6] s.size (fun g s4 s5 s6 wr => ∃ (i p : Nat) (l : List PF), s5 = .int .i64 (p : Int) ∧ s6 = .int .i64 (i : Int) ∧ g = s.size - i ∧ i ≤ s.size ∧ sR s 0 0 [] = sR s i p l ∧ l.length ≤ i ∧ PFRow W0.heap.size wr s4 l ∧ Below W0.heap.size W0 wr)
    case atStart => exact ⟨0, 0, [], rfl, rfl, rfl, Nat.zero_le _, rfl, Nat.le_refl _, PFRow.nil _ _, Below.refl _ _⟩
    case round =>
      obtain ⟨i, p, l, rfl, rfl, hg, hi, hpr, hll, hrow, hB⟩ := hrel
      have HP := Lib.hid hpr
      have hzB := hB.size
      obtain ⟨c0, c1, f0, f1⟩ := spot_held hlt0 HCS.out hB
      have hb1 : w.heap.size < wr.heap.size := by omega
      clear hpr
      by_cases hlt : i < s.size
      · have hbi : ((s[i]'hlt).toNat : Int) = bt s i := by unfold bt; rw [dif_pos hlt]
        have hst := sR_step (p := p) (l := l) hlt
        have HS := Lib.hid hst
        have hbn : (bt s i).toNat < 256 := by have := bt_le s i; have := bt_nonneg s i; omega
        have hbz : (((bt s i).toNat : Nat) : Int) = bt s i := by have := bt_nonneg s i; omega
        have hrow1 := fun W => row_any s i W (by omega) hlt
        have hrk := fun W => rRank_any (bt s i).toNat hbn W
        rw [hbz] at hrk
        have hrle := rankB_le (bt s i)
        have hmo := fun h0 W => rMost_any (rankB (bt s i)) h0 hrle W
        have hm9 := mostN_le (rankB (bt s i))
        have hpl := fun h1 h2 W => rPlain_any (bt s i) (bt_nonneg s i) (bt_le s i) h1 h2 W
        have hrm := runTo_more hlt
        have hre := (runTo_ge (s := s) (b := bt s i) _ i rfl).2 hi
        have hst2 := HS.out
        obtain ⟨m, hm⟩ : ∃ m, runTo s (bt s i) i = i + m := ⟨runTo s (bt s i) i - i, by omega⟩
        rw [hm, show i + m - i = m by omega] at hst2
        rw [hm] at hrow1 hrm hre
        rw [show i + m - i = m by omega] at hrow1
        clear hm hbz hbn hst HS
        by_cases hbad : rankB (bt s i) ≤ p ∨ rankB (bt s i) = 8 ∨ mostN (rankB (bt s i)) < m
        · rw [if_pos hbad] at hst2
          have HS2 := Lib.hid hst2
          clear hst2 hpl
          generalize rankB (bt s i) = r at *
          by_cases hrp : r ≤ p
          · have hrI : (r : Int) ≤ p := by omega
            clear hbad hmo
            go_wp2_with fail
            refine (hrow1 _).mono ?_
            rintro e w1 ⟨rfl, hB1⟩
            have hB2 := hB.trans (hB1.mono hzB)
            have hrow2 := hrow.later hB1
            obtain ⟨c0, c1, f0, f1⟩ := spot_held hlt0 HCS.out hB2
            have hzB2 := hB2.size
            go_wp2_with fail
            refine (hrk _).mono ?_
            rintro e w2 ⟨rfl, rfl⟩
            go_wp2_with fail
            refine bodyPost_ret (v := .tuple #[.slice none 0 0, .agg #[.int .i64 272, .int .i64 i]]) (by simp [results, Tryd.results21, go_sem, c0, c1]) rfl ⟨dpR_bad (by rw [HR.out, HP.out, HS2.out]), ?_⟩
            exact (((hB0.trans (hB2.mono (Nat.le_of_lt hlt0))).setCell (p := ⟨w.heap.size, 0, none⟩) (Nat.le_refl _) _).setCell (p := ⟨w.heap.size, 1, none⟩) (Nat.le_refl _) _)
          · have hrI : ¬ (r : Int) ≤ p := by omega
            by_cases hr8 : r = 8
            · have h8I : ((r : Int) == 8) = true := by simp; omega
              clear hbad hmo
              go_wp2_with fail
              refine (hrow1 _).mono ?_
              rintro e w1 ⟨rfl, hB1⟩
              have hB2 := hB.trans (hB1.mono hzB)
              have hrow2 := hrow.later hB1
              obtain ⟨c0, c1, f0, f1⟩ := spot_held hlt0 HCS.out hB2
              have hzB2 := hB2.size
              go_wp2_with fail
              refine (hrk _).mono ?_
              rintro e w2 ⟨rfl, rfl⟩
              go_wp2_with fail
              refine bodyPost_ret (v := .tuple #[.slice none 0 0, .agg #[.int .i64 272, .int .i64 i]]) (by simp [results, Tryd.results21, go_sem, c0, c1]) rfl ⟨dpR_bad (by rw [HR.out, HP.out, HS2.out]), ?_⟩
              exact (((hB0.trans (hB2.mono (Nat.le_of_lt hlt0))).setCell (p := ⟨w.heap.size, 0, none⟩) (Nat.le_refl _) _).setCell (p := ⟨w.heap.size, 1, none⟩) (Nat.le_refl _) _)
            · have h8I : ((r : Int) == 8) = false := by simp; omega
              have hmI : (mostN r : Int) < m := by omega
              have hmo1 := hmo (by omega)
              generalize mostN r = q at *
              clear hbad hr8 hmo
              go_wp2_with fail
              refine (hrow1 _).mono ?_
              rintro e w1 ⟨rfl, hB1⟩
              have hB2 := hB.trans (hB1.mono hzB)
              have hrow2 := hrow.later hB1
              obtain ⟨c0, c1, f0, f1⟩ := spot_held hlt0 HCS.out hB2
              have hzB2 := hB2.size
              go_wp2_with fail
              refine (hrk _).mono ?_
              rintro e w2 ⟨rfl, rfl⟩
              go_wp2_with fail
              refine (hmo1 _).mono ?_
              rintro e w2 ⟨rfl, rfl⟩
              go_wp2_with fail
              refine bodyPost_ret (v := .tuple #[.slice none 0 0, .agg #[.int .i64 272, .int .i64 i]]) (by simp [results, Tryd.results21, go_sem, c0, c1]) rfl ⟨dpR_bad (by rw [HR.out, HP.out, HS2.out]), ?_⟩
              exact (((hB0.trans (hB2.mono (Nat.le_of_lt hlt0))).setCell (p := ⟨w.heap.size, 0, none⟩) (Nat.le_refl _) _).setCell (p := ⟨w.heap.size, 1, none⟩) (Nat.le_refl _) _)
        · rw [if_neg hbad] at hst2
          have HS2 := Lib.hid hst2
          have hgd := sk_rank hbad
          have hrp : ¬ (rankB (bt s i) : Int) ≤ p := by omega
          have hr8 : ((rankB (bt s i) : Int) == 8) = false := by simp; omega
          have hmI : ¬ (mostN (rankB (bt s i)) : Int) < m := by omega
          have hmo1 := hmo (by omega)
          have hpl1 := hpl (by omega) hgd.2.1
          clear hst2 hbad hmo hpl
          generalize rankB (bt s i) = r at *
          generalize mostN r = q at *
          go_wp2_with fail
          refine (hrow1 _).mono ?_
          rintro e w1 ⟨rfl, hB1⟩
          have hB2 := hB.trans (hB1.mono hzB)
          have hrow2 := hrow.later hB1
          obtain ⟨c0, c1, f0, f1⟩ := spot_held hlt0 HCS.out hB2
          have hzB2 := hB2.size
          go_wp2_with fail
          refine (hrk _).mono ?_
          rintro e w2 ⟨rfl, rfl⟩
          go_wp2_with fail
          refine (hmo1 _).mono ?_
          rintro e w2 ⟨rfl, rfl⟩
          go_wp2_with fail
          refine (hpl1 _).mono ?_
          rintro e w2 ⟨rfl, rfl⟩
          go_wp2_with (at_builtin; go_must (refine wpList_snoc_pf (x := (plainB (bt s i), (m : Int), ⟨#[]⟩)) rfl _ _ rfl W0.heap.size u4 l rfl hrow2 _ rfl rfl (by omega) hB2 (Nat.le_refl _) hzB2 ?_); intro v' w3 hrow3 hB3)
          go_roundg (s.size - (i + m))
          case rel => exact ⟨i + m, r, l ++ [(plainB (bt s i), (m : Int), ⟨#[]⟩)], rfl, by push_cast; rfl, rfl, by omega, by rw [HP.out, HS2.out], by simp; omega, hrow3, hB3⟩
          case measure => omega
      · have hie : i = s.size := by omega
        have hend := sR_end (p := p) (l := l) hlt
        have HE := Lib.hid hend
        clear hend hlt
        subst hie
        go_wp2_with fail
        refine bodyPost_ret (v := .tuple #[u4, .agg #[.int .i64 0, .int .i64 0]]) (by simp [results, Tryd.results21, go_sem, c0, c1]) rfl ⟨⟨u4, by rw [HR.out, HP.out, HE.out], ?_⟩, ?_⟩
        · rw [HR.out, HP.out, HE.out]
          exact ((hrow.other (p := ⟨w.heap.size, 0, none⟩) hlt0 _).other (p := ⟨w.heap.size, 1, none⟩) hlt0 _).mono (Nat.le_of_lt hlt0)
        · exact (((hB0.trans (hB.mono (Nat.le_of_lt hlt0))).setCell (p := ⟨w.heap.size, 0, none⟩) (Nat.le_refl _) _).setCell (p := ⟨w.heap.size, 1, none⟩) (Nat.le_refl _) _)
end Go.Proofs.YtbnhfjhhbgmhfaaDoor
