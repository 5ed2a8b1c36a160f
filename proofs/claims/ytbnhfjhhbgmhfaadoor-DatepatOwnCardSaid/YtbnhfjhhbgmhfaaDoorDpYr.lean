/-
  Patterns of dates: may fields be? The reference's.
-/
import Derived.Test.YtbnhfjhhbgmhfaaDoorDpY
namespace Go.Proofs.YtbnhfjhhbgmhfaaDoor
open Go.RowKit Go.PlainAid

theorem rRank_q (b : Int) (h0 : 0 ≤ b) (h1 : b ≤ 255) (w : World) : Calls Tryd.prog 26 #[.int .u8 b] w fun e w' => e = .returned (.int .i64 (rankB b : Int)) ∧ w' = w := by
  have h := rRank_any b.toNat (by omega) w
  rw [show ((b.toNat : Nat) : Int) = b by omega] at h
  exact h.mono fun _ _ h => ⟨h.1, h.2.symm⟩
theorem rMost_q (r : Nat) (h0 : 1 ≤ r) (h : r ≤ 13) (w : World) : Calls Tryd.prog 38 #[.int .i64 r] w fun e w' => e = .returned (.int .i64 (mostN r : Int)) ∧ w' = w := (rMost_any r h0 h w).mono fun _ _ h => ⟨h.1, h.2.symm⟩

set_option maxRecDepth 100000 in
set_option maxHeartbeats 4000000 in
theorem rMay_any (v : Value) (l : List PF) (w : World) (hv : PFAt w v l) (hok : PFok l) :
    Calls Tryd.prog 17 #[v] w fun e w' => e = .returned (.bool (mayB l)) ∧ Below w.heap.size w w' := by
  obtain ⟨a, cap, rfl, hlen, hc⟩ := hv
  have hfs := field_spot
  have HC := Lib.hid hc
  have HOK := Lib.hid hok
  clear hc hok
  go_enter Tryd.func17, Tryd.ntmps17
  go_wp2_with fail
  go_loopg [3] l.length (fun g s3 wr => ∃ i : Nat, s3 = .int .i64 (i : Int) ∧ i + g = l.length ∧ mayB l = mayF (prevL l i) (l.drop i) ∧ Below w.heap.size w wr)
  case atStart => exact ⟨0, rfl, by omega, rfl, Below.refl _ _⟩
  case round =>
    obtain ⟨i, rfl, hg, hm, hB⟩ := hrel
    by_cases hi : i < l.length
    · have hst := may_at hi
      rw [← hm] at hst
      have HST := Lib.hid hst
      obtain ⟨g, off, rfl, hgw, h0, h1, h2⟩ := HC.out i hi
      have hx := HOK.out l[i] (List.getElem_mem hi)
      generalize hli : l[i] = x at *
      obtain ⟨b, c, t⟩ := x
      simp only at h0 h1 h2 hx
      obtain ⟨hx0, hx1, hx2⟩ := hx
      have d0 := (hB.cell (p := ⟨g, _, none⟩) hgw).trans h0
      have d1 := (hB.cell (p := ⟨g, _, none⟩) hgw).trans h1
      have d2 := (hB.cell (p := ⟨g, _, none⟩) hgw).trans h2
      have hgr : g < wr.heap.size := by have := hB.size; omega
      have hBa := hB.alloc hB.size (.cells #[.int .u8 b, .int .i64 c, .string t] 43)
      have hza := hB.size
      have hiI : (i : Int) < l.length := by omega
      clear hm hst h0 h1 h2
      by_cases hb : b = 0
      · subst hb
        by_cases ht : t.size = 0
        · have hte := isEmpty_of t ht
          have hf : mayB l = false := by rw [HST.out]; simp [fldB, ht]
          have HF := Lib.hid hf
          clear hf
          clear ht
          go_wp2_with fail
          go_ret
          exact ⟨ret_bool HF.out.symm, hBa⟩
        · have hte := isEmpty_not t ht
          by_cases hcc : c = 0
          · have hc1 : (c != 0) = false := by simp [hcc]
            have hck := fun W => right_any t W (by omega)
            by_cases hk : 0 ≤ brk t 0
            · have hkD : (0 : Int) ≤ brk t 0 := hk
              have hf : mayB l = false := by rw [HST.out]; simp [fldB]; intro _ _ h; omega
              have HF := Lib.hid hf
              clear hf
              clear hcc ht
              generalize brk t 0 = kk at *
              clear hk
              go_wp2_with fail
              refine (hck _).mono ?_
              rintro e w1 ⟨rfl, rfl⟩
              go_wp2_with fail
              go_ret
              exact ⟨ret_bool HF.out.symm, hBa⟩
            · have hkD : ¬ (0 : Int) ≤ brk t 0 := hk
              have hfl : fldB ((0 : Int), c, t) = true := by simp [fldB, ht, hcc]; omega
              have HFL := Lib.hid hfl
              have cp := (Blk.new wr #[.int .u8 0, .int .i64 c, .string t] 43)
              clear hcc ht hfl
              generalize brk t 0 = kk at *
              clear hk
              go_wp2_with fail
              refine (hck _).mono ?_
              rintro e w1 ⟨rfl, rfl⟩
              have hB2 := hBa
              have cp2 := cp
              have cq0 := cp2.cell 0
              have cq1 := cp2.cell 1
              have cq2 := cp2.cell 2
              simp at cq0 cq1 cq2
              have hBn := hB2
              have cpn := cp2
              generalize hw2 : (wr.alloc (.cells #[.int .u8 0, .int .i64 c, .string t] 43)) = w2 at *
              clear hw2
              clear cp2 cq0 cq1 cq2 cp
              have cq0 := cpn.cell 0
              simp at cq0
              rcases Nat.eq_zero_or_pos i with hi0 | hi0
              · subst hi0
                have hnew : mayB l = mayF (prevL l (0 + 1)) (l.drop (0 + 1)) := by rw [HST.out, HFL.out]; simp [prevL]; try omega
                have HN := Lib.hid hnew
                clear hnew
                go_wp2_with fail
                go_upto_region 10 with fail
                go_quiet (fail)
                have hBm := bdrN hBn nq
                go_wp2_with fail
                go_roundg (gk - 1)
                case rel => exact ⟨0 + 1, rfl, by omega, HN.out, hBm⟩
                case measure => omega
              · obtain ⟨k, hk⟩ : ∃ k, i = k + 1 := ⟨i - 1, by omega⟩
                have hq : ∃ q, w2.cell? ⟨g, off + k * 3, none⟩ = some (.int .u8 q) ∧ prevL l i = q := by
                  obtain ⟨g', off', he, _, p0, _, _⟩ := HC.out k (by omega)
                  injection he with he
                  injection he with he1 he2
                  subst he1 he2
                  have pv := prevL_at (l := l) (i := k) (by omega)
                  rw [← hk] at pv
                  exact ⟨_, (hBn.cell (p := ⟨g, _, none⟩) hgw).trans p0, pv⟩
                obtain ⟨q, e0, pv⟩ := hq
                have i1 : IntKind.i64.wrap ((i : Int) - 1) = (i : Int) - 1 := IntWalk.i64_in _ (by omega)
                have i2 : (0 : Int) < i := by omega
                have i3 : (i : Int) - 1 < l.length := by omega
                have i4 : (0 : Int) ≤ (i : Int) - 1 := by omega
                have i5 : ((i : Int) - 1).toNat = k := by omega
                have HK := Lib.hid hk
                have HPV := Lib.hid pv
                clear hk pv
                by_cases hq : q = 0
                · have hq1 : (q == 0) = true := by simp [hq]
                  have hf : mayB l = false := by rw [HST.out, HPV.out, hq]; simp
                  have HF := Lib.hid hf
                  clear hf hq
                  go_wp2_with fail
                  go_upto_region 10 with fail
                  go_quiet (fail)
                  have hBm := bdrN hBn nq
                  go_wp2_with fail
                  go_ret
                  exact ⟨ret_bool HF.out.symm, hBm⟩
                · have hq1 : (q == 0) = false := by simp [hq]
                  have hnew : mayB l = mayF (prevL l (i + 1)) (l.drop (i + 1)) := by rw [HST.out, HFL.out, HPV.out]; simp [hq]
                  have HN := Lib.hid hnew
                  clear hnew hq
                  go_wp2_with fail
                  go_upto_region 10 with fail
                  go_quiet (fail)
                  have hBm := bdrN hBn nq
                  go_wp2_with fail
                  go_roundg (gk - 1)
                  case rel => exact ⟨i + 1, by push_cast; rfl, by omega, HN.out, hBm⟩
                  case measure => omega
          · have hc1 : (c != 0) = true := by simpa using hcc
            have hf : mayB l = false := by rw [HST.out]; simp [fldB, hcc]
            have HF := Lib.hid hf
            clear hf
            clear ht hcc
            go_wp2_with fail
            go_ret
            exact ⟨ret_bool HF.out.symm, hBa⟩
      · have hbe : (b == 0) = false := by simpa using hb
        have hr13 := rankB_le b
        have hRQ := fun W => rRank_q b hx0 hx1 W
        have cp := (Blk.new wr #[.int .u8 b, .int .i64 c, .string t] 43)
        have cq0 := cp.cell 0
        have cq1 := cp.cell 1
        have cq2 := cp.cell 2
        simp at cq0 cq1 cq2
        by_cases ht : t.size = 0
        · have hte := isEmpty_of t ht
          by_cases hr : rankB b = 0
          · have hrI : ((rankB b : Int) == 0) = true := by simp [hr]
            have hf : mayB l = false := by rw [HST.out]; simp [fldB, hb, ht, hr]
            have HF := Lib.hid hf
            clear hf
            clear hb hr ht
            go_wp2_with fail
            go_upto_region 8 with fail
            go_quiet ((first | (go_at_call 26; exact Calls.quiet_of_same (hRQ _)) | (go_at_call 38; exact Calls.quiet_of_same (hMQ _))))
            have hBn := bdrN hBa nq
            go_wp2_with fail
            go_ret
            exact ⟨ret_bool HF.out.symm, hBn⟩
          · have hrI : ((rankB b : Int) == 0) = false := by simp [hr]
            have hMQ := fun W => rMost_q (rankB b) (by omega) hr13 W
            by_cases hc1 : c < 1
            · have hcD : decide (c < 1) = true := by simpa using hc1
              have hf : mayB l = false := by rw [HST.out]; simp [fldB, hb, ht, hr]; intro h; omega
              have HF := Lib.hid hf
              clear hf
              clear hb hr ht
              go_wp2_with fail
              go_upto_region 8 with fail
              go_quiet ((first | (go_at_call 26; exact Calls.quiet_of_same (hRQ _)) | (go_at_call 38; exact Calls.quiet_of_same (hMQ _))))
              have hBn := bdrN hBa nq
              go_wp2_with fail
              go_ret
              exact ⟨ret_bool HF.out.symm, hBn⟩
            · have hcD : decide (c < 1) = false := by simpa using hc1
              by_cases hm9 : (mostN (rankB b) : Int) < c
              · have hmD : decide ((mostN (rankB b) : Int) < c) = true := by simpa using hm9
                have hf : mayB l = false := by rw [HST.out]; simp [fldB, hb, ht, hr]; intro h1 h2; omega
                have HF := Lib.hid hf
                clear hf
                clear hb hr ht
                go_wp2_with fail
                go_upto_region 8 with fail
                go_quiet ((first | (go_at_call 26; exact Calls.quiet_of_same (hRQ _)) | (go_at_call 38; exact Calls.quiet_of_same (hMQ _))))
                have hBn := bdrN hBa nq
                go_wp2_with fail
                go_ret
                exact ⟨ret_bool HF.out.symm, hBn⟩
              · have hmD : decide ((mostN (rankB b) : Int) < c) = false := by simpa using hm9
                have hfl : fldB (b, c, t) = true := by simp [fldB, hb, ht, hr]; omega
                have HFL := Lib.hid hfl
                clear hb hr ht hfl
                go_wp2_with fail
                go_upto_region 8 with fail
                go_quiet ((first | (go_at_call 26; exact Calls.quiet_of_same (hRQ _)) | (go_at_call 38; exact Calls.quiet_of_same (hMQ _))))
                have hBn := bdrN hBa nq
                have cpn := cp.drewN nq
                generalize hw2 : (wr.alloc (.cells #[.int .u8 b, .int .i64 c, .string t] 43)).drewN nq = w2 at *
                clear hw2
                clear cq0 cq1 cq2 cp
                have cq0 := cpn.cell 0
                simp at cq0
                rcases Nat.eq_zero_or_pos i with hi0 | hi0
                · subst hi0
                  have hnew : mayB l = mayF (prevL l (0 + 1)) (l.drop (0 + 1)) := by rw [HST.out, HFL.out]; simp [prevL]; omega
                  have HN := Lib.hid hnew
                  clear hnew
                  go_wp2_with fail
                  go_upto_region 10 with fail
                  go_quiet (fail)
                  have hBm := bdrN hBn nq
                  go_wp2_with fail
                  go_roundg (gk - 1)
                  case rel => exact ⟨0 + 1, rfl, by omega, HN.out, hBm⟩
                  case measure => omega
                · obtain ⟨k, hk⟩ : ∃ k, i = k + 1 := ⟨i - 1, by omega⟩
                  have hq : ∃ q, w2.cell? ⟨g, off + k * 3, none⟩ = some (.int .u8 q) ∧ prevL l i = q := by
                    obtain ⟨g', off', he, _, p0, _, _⟩ := HC.out k (by omega)
                    injection he with he
                    injection he with he1 he2
                    subst he1 he2
                    have pv := prevL_at (l := l) (i := k) (by omega)
                    rw [← hk] at pv
                    exact ⟨_, (hBn.cell (p := ⟨g, _, none⟩) hgw).trans p0, pv⟩
                  obtain ⟨q, e0, pv⟩ := hq
                  have i1 : IntKind.i64.wrap ((i : Int) - 1) = (i : Int) - 1 := IntWalk.i64_in _ (by omega)
                  have i2 : (0 : Int) < i := by omega
                  have i3 : (i : Int) - 1 < l.length := by omega
                  have i4 : (0 : Int) ≤ (i : Int) - 1 := by omega
                  have i5 : ((i : Int) - 1).toNat = k := by omega
                  have HK := Lib.hid hk
                  have HPV := Lib.hid pv
                  clear hk pv
                  by_cases hq : q = b
                  · have hq1 : (q == b) = true := by simp [hq]
                    have hf : mayB l = false := by rw [HST.out, HPV.out, hq]; simp
                    have HF := Lib.hid hf
                    clear hf hq
                    go_wp2_with fail
                    go_upto_region 10 with fail
                    go_quiet (fail)
                    have hBm := bdrN hBn nq
                    go_wp2_with fail
                    go_ret
                    exact ⟨ret_bool HF.out.symm, hBm⟩
                  · have hq1 : (q == b) = false := by simp [hq]
                    have hnew : mayB l = mayF (prevL l (i + 1)) (l.drop (i + 1)) := by rw [HST.out, HFL.out, HPV.out]; simp [hq]
                    have HN := Lib.hid hnew
                    clear hnew hq
                    go_wp2_with fail
                    go_upto_region 10 with fail
                    go_quiet (fail)
                    have hBm := bdrN hBn nq
                    go_wp2_with fail
                    go_roundg (gk - 1)
                    case rel => exact ⟨i + 1, by push_cast; rfl, by omega, HN.out, hBm⟩
                    case measure => omega
        · have hte := isEmpty_not t ht
          have hf : mayB l = false := by rw [HST.out]; simp [fldB, hb, ht]
          have HF := Lib.hid hf
          clear hf
          clear hb ht
          go_wp2_with fail
          go_upto_region 8 with fail
          go_quiet ((first | (go_at_call 26; exact Calls.quiet_of_same (hRQ _)) | (go_at_call 38; exact Calls.quiet_of_same (hMQ _))))
          have hBn := bdrN hBa nq
          go_wp2_with fail
          go_ret
          exact ⟨ret_bool HF.out.symm, hBn⟩
    · have hend := may_end hi (prevL l i)
      rw [← hm] at hend
      have hiI : ¬ (i : Int) < l.length := by omega
      have HE := Lib.hid hend
      clear hend hm
      go_wp2_with fail
      go_ret
      exact ⟨ret_bool HE.out.symm, hB⟩
end Go.Proofs.YtbnhfjhhbgmhfaaDoor
