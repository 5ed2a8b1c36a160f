/-
  Patterns of dates: words, Skeleton.
-/
import Derived.Test.YtbnhfjhhbgmhfaaDoorDpSr
import Derived.Test.YtbnhfjhhbgmhfaaDoorDpZ
namespace Go.Proofs.YtbnhfjhhbgmhfaaDoor
open Go.RowKit Go.PlainAid

set_option maxRecDepth 100000 in
set_option maxHeartbeats 4000000 in
theorem words_any (r : Nat) (a b : Int) (w : World) :
    Calls Tryd.prog 53 #[.int .i64 r, .int .i64 a, .int .i64 b] w fun e w' => e = .returned (.bool (wordsB r a b)) ∧ w' = w := by
  go_enter Tryd.func53, Tryd.ntmps53
  go_wp2
  all_goals (go_ret; refine ⟨ret_bool ?_, rfl⟩; rw [Bool.eq_iff_iff]; simp_all [wordsB]; try omega)
set_option maxRecDepth 100000 in
set_option maxHeartbeats 4000000 in
theorem rWords_any (r : Nat) (a b : Int) (w : World) :
    Calls Tryd.prog 54 #[.int .i64 r, .int .i64 a, .int .i64 b] w fun e w' => e = .returned (.bool (wordsB r a b)) ∧ w' = w := by
  go_enter Tryd.func54, Tryd.ntmps54
  go_wp2
  all_goals (go_ret; refine ⟨ret_bool ?_, rfl⟩; rw [Bool.eq_iff_iff]; simp_all [wordsB]; try omega)

/-- Fields of a skeleton read from the first i bytes. -/
def SIn (i : Nat) (l : List PF) : Prop := l.length ≤ i ∧ ∀ x ∈ l, x.2.2 = ⟨#[]⟩ ∧ 0 ≤ x.1 ∧ x.1 ≤ 255 ∧ rankB x.1 ≠ 0 ∧ 1 ≤ x.2.1 ∧ x.2.1 ≤ 64
theorem sR_in (s : ByteArray) : ∀ (f i p : Nat) (l : List PF), s.size - i = f → i ≤ s.size → SIn i l → SIn s.size (sR s i p l).1
  | f, i, p, l, hf, hi, h => by
    by_cases hlt : i < s.size
    · rw [sR_step hlt]
      have hrm := runTo_more hlt
      have hre := (runTo_ge (s := s) (b := bt s i) _ i rfl).2 hi
      have hm9 := mostN_le (rankB (bt s i))
      split
      · exact ⟨Nat.zero_le _, fun x hx => absurd hx (by simp)⟩
      · rename_i hb
        refine sR_in s _ _ _ _ rfl hre ⟨by rw [List.length_append]; have := h.1; simp; omega, fun y hy => ?_⟩
        rcases List.mem_append.1 hy with hy | hy
        · exact h.2 y hy
        · simp at hy
          subst hy
          have hp := plain_range (bt s i) (bt_nonneg s i) (bt_le s i)
          refine ⟨rfl, hp.1, hp.2, ?_, ?_, ?_⟩
          · simp only; rw [rank_plain]; omega
          · simp only; omega
          · simp only; omega
    · rw [sR_end hlt]
      exact ⟨Nat.le_trans h.1 hi, h.2⟩
  termination_by f => f
  decreasing_by all_goals omega
theorem skel_sk (s : ByteArray) : PSk (skel s).1 := by
  unfold skel
  by_cases h : 64 < s.size
  · rw [if_pos h]; exact ⟨Nat.zero_le _, fun x hx => absurd hx (by simp)⟩
  · rw [if_neg h]
    have := sR_in s _ 0 0 [] rfl (Nat.zero_le _) ⟨Nat.le_refl _, fun x hx => absurd hx (by simp)⟩
    exact ⟨by have := this.1; omega, this.2⟩

set_option maxRecDepth 100000 in
set_option maxHeartbeats 4000000 in
theorem skelS_any (s : ByteArray) (w : World) (hs : s.size ≤ 1000000000000000) :
    Calls Tryd.prog 24 #[.string s] w fun e w' => e = .returned (.tuple #[.string (printT (skel s).1), .agg #[.int .i64 (skel s).2.1, .int .i64 (skel s).2.2]]) ∧ Below w.heap.size w w' := by
  have hsk := skel_sk s
  have hq := fun W => skel_any s W hs
  generalize skel s = r at *
  obtain ⟨L, E, A⟩ := r
  have hll := hsk.1
  have hfm := fun v W h => form_any v L W h hsk
  have HFM := Lib.hid hfm
  have sp := Blk.new w #[.int .i64 0, .int .i64 0] 26
  have hB0 := (Below.refl w.heap.size w).alloc (Nat.le_refl _) (.cells #[.int .i64 0, .int .i64 0] 26)
  clear hfm hsk
  go_enter Tryd.func24, Tryd.ntmps24
  go_wp2_with fail
  refine (hq _).mono ?_
  rintro e w1 ⟨⟨v, rfl, hrow⟩, hB1⟩
  have hat := hrow.at (by show L.length ≤ _; omega)
  obtain ⟨va, vc, rfl⟩ := hrow.form
  have sp1 := sp.on hB1
  have hB2 := hB0.trans (hB1.mono (by simp))
  have hz := hB2.size
  have sp2 := sp1.alloc (.cells #[.int .i64 E, .int .i64 A] 26)
  have sq2 := Blk.new w1 #[.int .i64 E, .int .i64 A] 26
  have hat2 := hat.later ((Below.refl w1.heap.size w1).alloc (Nat.le_refl _) (.cells #[.int .i64 E, .int .i64 A] 26))
  have hB3 := hB2.alloc hz (.cells #[.int .i64 E, .int .i64 A] 26)
  have hlt := sp1.lt
  clear hq hrow hat sp sp1 hB0 hB1
  go_upto_region 2 with fail
  generalize w1.alloc (.cells #[.int .i64 E, .int .i64 A] 26) = w2 at *
  have c0 := sp2.cell 0
  have c1 := sp2.cell 1
  have f0 := sp2.free 0
  have f1 := sp2.free 1
  have d0 := sq2.cell 0
  have d1 := sq2.cell 1
  simp at c0 c1 d0 d1
  have hat3 : PFAt w2.drew (.slice va L.length vc) L := hat2.later (Below.refl _ _).drew
  have hB4 := hB3.drew
  have hz4 : w.heap.size ≤ w2.drew.heap.size := hB3.size
  go_region_with (go_at_call 46; refine (HFM.out _ _ hat3).mono ?_; rintro e w3 ⟨rfl, hB5⟩; have sp3 := sp2.drew.on hB5; have sq3 := sq2.drew.on hB5; have c0 := sp3.cell 0; have c1 := sp3.cell 1; have d0 := sq3.cell 0; have d1 := sq3.cell 1; simp at c0 c1 d0 d1; have f0 := sp3.free 0; have f1 := sp3.free 1; have hlt3 := sp3.lt)
  all_goals
    have hB6 := hB4.trans (hB5.mono hz4)
    have sp4 := ((sp3.set 0 (.int .i64 E)).set 1 (.int .i64 A))
    have z0 := sp4.cell 0
    have z1 := sp4.cell 1
    simp at z0 z1
    go_wp2_with fail
    refine bodyPost_ret (v := .tuple #[.string (printT L), .agg #[.int .i64 E, .int .i64 A]]) (by simp [results, Tryd.results24, go_sem, z0, z1]) rfl ⟨rfl, ?_⟩
    exact (hB6.setCell (p := ⟨w.heap.size, 0, none⟩) (Nat.le_refl _) _).setCell (p := ⟨w.heap.size, 1, none⟩) (Nat.le_refl _) _
end Go.Proofs.YtbnhfjhhbgmhfaaDoor
