/-
  Patterns of dates: the walk of the reference's Stretch.
-/
import Derived.Test.YtbnhfjhhbgmhfaaDoorStrW
namespace Go.Proofs.YtbnhfjhhbgmhfaaDoor
open Go.RowKit Go.PlainAid

theorem str_next {l x : List PF} {i : Nat} (h : i < l.length) : stretchR (l.take (i + 1)) x = stretchR (l.take i) x ++ [strOne x l[i]] := by
  rw [take_snoc' l i h]
  unfold stretchR
  rw [List.map_append]
  rfl
theorem str_none {x : List PF} {f : PF} (h : findR x (rankB f.1) = none) : strOne x f = f := by unfold strOne; rw [h]
theorem str_some {x : List PF} {f y : PF} (h : findR x (rankB f.1) = some y) (h0 : f.1 ≠ 0) : strOne x f = if wordsB (rankB f.1) f.2.1 y.2.1 = false then (f.1, y.2.1, f.2.2) else f := by
  unfold strOne
  rw [h]
  by_cases hw : wordsB (rankB f.1) f.2.1 y.2.1 = false
  · rw [if_pos hw]; simp only; rw [if_pos ⟨h0, hw⟩]
  · rw [if_neg hw]; simp only; rw [if_neg (fun g => hw g.2)]

/-- A store into another block. -/
theorem PFRow.setAt {base : Nat} {w : World} {v : Value} {l : List PF} (h : PFRow base w v l) (b o : Nat) (u : Value) (hb : ∀ k, v.ownBlock = some k → k ≠ b) : PFRow base (w.setCell ⟨b, o, none⟩ u) v l := by
  refine ⟨h.1, ?_⟩
  rcases h.2 with h2 | ⟨g, cap, cur, hv, hg, hh, r⟩
  · exact .inl h2
  · refine .inr ⟨g, cap, cur, hv, hg, ?_, r⟩
    rw [Below.heap_setCell w ⟨b, o, none⟩ u g (hb g (by rw [hv]; rfl))]
    exact hh

set_option maxRecDepth 100000 in
set_option maxHeartbeats 4000000 in
theorem rStretch_any (vl vx : Value) (l x : List PF) (w : World) (hl : PFAt w vl l) (hx : PFAt w vx x) (hin : PFin l) (hok : PFok x) :
    Calls Tryd.prog 22 #[vl, vx] w fun e w' => ∃ v', e = .returned v' ∧ PFRow w.heap.size w' v' (stretchR l x) ∧ Below w.heap.size w w' := by
  have HX := Lib.hid hx
  have HOK := Lib.hid hok
  have HIN := Lib.hid hin
  have hlm := hin.1
  obtain ⟨a, cap, rfl, hlen, hc⟩ := hl
  have HC := Lib.hid hc
  obtain ⟨xa, xc, rfl, hxl, hcx⟩ := hx
  have HCX := Lib.hid hcx
  clear hc hok hin hcx
  go_enter Tryd.func22, Tryd.ntmps22
  go_wp2_with fail
  go_loopg [5, 6] l.length (fun g s5 s6 wr => ∃ i : Nat, s6 = .int .i64 (i : Int) ∧ i + g = l.length ∧ PFRow w.heap.size wr s5 (stretchR (l.take i) x) ∧ Below w.heap.size w wr)
  case atStart => exact ⟨0, rfl, by omega, PFRow.nil _ _, Below.refl _ _⟩
  case round =>
    obtain ⟨i, rfl, hg, hrow, hB⟩ := hrel
    by_cases hi : i < l.length
    · have hiI : (i : Int) < l.length := by omega
      have hi0 : (0 : Int) ≤ i := by omega
      have hnx := str_next (x := x) hi
      have hf := HIN.out.rows hi
      obtain ⟨g, off, rfl, hgw, p0, p1, p2⟩ := HC.out i hi
      generalize l[i] = f at *
      obtain ⟨b, c, t⟩ := f
      simp only at p0 p1 p2 hf hnx
      have hrk : b ≠ 0 → rankB b ≠ 0 := fun h => ((fldB_count hf.1).2.2.2 h).2.1
      have hb0 := hf.2.1
      have hb1 := hf.2.2.1
      have q0 := (hB.cell (p := ⟨g, _, none⟩) hgw).trans p0
      have q1 := (hB.cell (p := ⟨g, _, none⟩) hgw).trans p1
      have q2 := (hB.cell (p := ⟨g, _, none⟩) hgw).trans p2
      have hz := hB.size
      have hnb0 : ∀ k, u5.ownBlock = some k → k ≠ wr.heap.size := fun k hk => by have := (World.ownsRow.lt hrow k hk).2; omega
      have hnb := Lib.hid hnb0
      clear hnb0
      have hB1 := hB.alloc hz (.cells #[.int .u8 b, .int .i64 c, .string t] 43)
      have hrow1 := hrow.later ((Below.refl wr.heap.size wr).alloc (Nat.le_refl _) (.cells #[.int .u8 b, .int .i64 c, .string t] 43))
      have fk := Blk.new wr #[.int .u8 b, .int .i64 c, .string t] 43
      have hrq := fun W => rRank_q b hb0 hb1 W
      clear p0 p1 p2 hf hrow hB
      by_cases hb : b = 0
      · have hbe : (b != 0) = false := by simp [hb]
        rw [str_text (x := x) (f := (b, c, t)) hb] at hnx
        have HN := Lib.hid hnx
        clear hnx hrk hb
        go_upto_region 6 with fail
        generalize wr.alloc (.cells #[.int .u8 b, .int .i64 c, .string t] 43) = wj at *
        have c0 := fk.cell 0
        have c1 := fk.cell 1
        have c2 := fk.cell 2
        simp at c0 c1 c2
        have hz1 := hB1.size
        go_wp2_with (at_builtin; go_must (refine wpList_snoc_pf (x := (b, c, t)) rfl _ _ rfl w.heap.size _ _ rfl hrow1 _ rfl rfl (by rw [stretch_len, List.length_take]; omega) hB1 (Nat.le_refl _) hz1 ?_); intro v' w5 hrow5 hB5)
        go_roundg (gk - 1)
        case rel => exact ⟨i + 1, by push_cast; rfl, by omega, by rw [HN.out]; exact hrow5, hB5⟩
        case measure => omega
      · have hbe : (b != 0) = true := by simpa using hb
        have hr1 := hrk hb
        have hfd := fun W h => rFind_any (.slice xa x.length xc) x (rankB b) (by omega) W h HOK.out
        go_upto_region 6 with fail
        generalize wr.alloc (.cells #[.int .u8 b, .int .i64 c, .string t] 43) = wj at *
        have c0 := fk.cell 0
        have c1 := fk.cell 1
        have c2 := fk.cell 2
        simp at c0 c1 c2
        have hxj := HX.out.later hB1
        go_wp2_with fail
        refine (hrq _).mono ?_
        rintro e w2 ⟨rfl, rfl⟩
        go_wp2_with fail
        refine (hfd _ hxj).mono ?_
        rintro e w3 ⟨⟨k, rfl, hfk⟩, rfl⟩
        have hz1 := hB1.size
        rcases hfk with ⟨rfl, hfn⟩ | ⟨n, hn, rfl, hfn⟩
        · rw [str_none (x := x) (f := (b, c, t)) hfn] at hnx
          have HN := Lib.hid hnx
          clear hnx hrk hb hfn hfd
          go_upto_region 8 with fail
          go_quiet (fail)
          have hrow1 := hrow1.later (bdrN (Below.refl w3.heap.size w3) nq)
          have hB1 := bdrN hB1 nq
          have fk := fk.drewN nq
          generalize w3.drewN nq = w4 at *
          have c0 := fk.cell 0
          have c1 := fk.cell 1
          have c2 := fk.cell 2
          simp at c0 c1 c2
          have hz1 := hB1.size
          go_wp2_with (at_builtin; go_must (refine wpList_snoc_pf (x := (b, c, t)) rfl _ _ rfl w.heap.size _ _ rfl hrow1 _ rfl rfl (by rw [stretch_len, List.length_take]; omega) hB1 (Nat.le_refl _) hz1 ?_); intro v' w5 hrow5 hB5)
          go_roundg (gk - 1)
          case rel => exact ⟨i + 1, by push_cast; rfl, by omega, by rw [HN.out]; exact hrow5, hB5⟩
          case measure => omega
        · have hs := str_some (x := x) (f := (b, c, t)) hfn hb
          have hnI : (n : Int) < x.length := by omega
          have hn0 : (0 : Int) ≤ n := by omega
          obtain ⟨xg, xo, rfl, hxg, y0, y1, y2⟩ := hxj.get n hn
          generalize x[n] = y at *
          obtain ⟨yb, yc, yt⟩ := y
          simp only at y0 y1 y2 hs
          cases hw : wordsB (rankB b) c yc with
          | true =>
            rw [hs, if_neg (by rw [hw]; decide)] at hnx
            have HN := Lib.hid hnx
            clear hnx hrk hb hfn hfd hs
            go_upto_region 8 with fail
            go_quiet ((first | (go_at_call 26; exact Calls.quiet_of_same (hrq _)) | (go_at_call 54; exact Calls.quiet_of_same (rWords_any _ _ _ _))))
            have hrow1 := hrow1.later (bdrN (Below.refl w3.heap.size w3) nq)
            have hB1 := bdrN hB1 nq
            have fk := fk.drewN nq
            generalize w3.drewN nq = w4 at *
            have c0 := fk.cell 0
            have c1 := fk.cell 1
            have c2 := fk.cell 2
            simp at c0 c1 c2
            have hz1 := hB1.size
            go_wp2_with (at_builtin; go_must (refine wpList_snoc_pf (x := (b, c, t)) rfl _ _ rfl w.heap.size _ _ rfl hrow1 _ rfl rfl (by rw [stretch_len, List.length_take]; omega) hB1 (Nat.le_refl _) hz1 ?_); intro v' w5 hrow5 hB5)
            go_roundg (gk - 1)
            case rel => exact ⟨i + 1, by push_cast; rfl, by omega, by rw [HN.out]; exact hrow5, hB5⟩
            case measure => omega
          | false =>
            rw [hs, if_pos hw] at hnx
            have HN := Lib.hid hnx
            clear hnx hrk hb hfn hfd hs
            go_upto_region 8 with fail
            go_quiet ((first | (go_at_call 26; exact Calls.quiet_of_same (hrq _)) | (go_at_call 54; exact Calls.quiet_of_same (rWords_any _ _ _ _))))
            have hrow1 := hrow1.later (bdrN (Below.refl w3.heap.size w3) nq)
            have hB1 := bdrN hB1 nq
            have fk := fk.drewN nq
            have y1 := cell_later y1 (bdrN (Below.refl w3.heap.size w3) nq)
            generalize w3.drewN nq = w4 at *
            have c0 := fk.cell 0
            have c1 := fk.cell 1
            have c2 := fk.cell 2
            have f1 := fk.free 1
            simp at c0 c1 c2
            have hzw : w.heap.size ≤ wr.heap.size := hz
            have hB1 := hB1.setCell (p := ⟨wr.heap.size, 1, none⟩) hzw (.int .i64 yc)
            have fs := fk.set 1 (.int .i64 yc)
            have hrow1 := hrow1.setAt wr.heap.size 1 (.int .i64 yc) hnb.out
            go_upto_region 10 with fail
            generalize w4.setCell ⟨wr.heap.size, 1, none⟩ (.int .i64 yc) = w6 at *
            have c0 := fs.cell 0
            have c1 := fs.cell 1
            have c2 := fs.cell 2
            simp at c0 c1 c2
            have hz1 := hB1.size
            go_wp2_with (at_builtin; go_must (refine wpList_snoc_pf (x := (b, yc, t)) rfl _ _ rfl w.heap.size _ _ rfl hrow1 _ rfl rfl (by rw [stretch_len, List.length_take]; omega) hB1 (Nat.le_refl _) hz1 ?_); intro v' w5 hrow5 hB5)
            go_roundg (gk - 1)
            case rel => exact ⟨i + 1, by push_cast; rfl, by omega, by rw [HN.out]; exact hrow5, hB5⟩
            case measure => omega
    · have hiI : ¬ (i : Int) < l.length := by omega
      rw [List.take_of_length_le (by omega)] at hrow
      go_wp2_with fail
      go_ret
      exact ⟨_, rfl, hrow, hB⟩
end Go.Proofs.YtbnhfjhhbgmhfaaDoor
