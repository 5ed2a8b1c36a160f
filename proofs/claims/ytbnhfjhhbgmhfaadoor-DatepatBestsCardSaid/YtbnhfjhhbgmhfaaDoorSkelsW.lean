/-
  The walk of DatepatSkeletons.
-/
import Derived.Test.YtbnhfjhhbgmhfaaDoorDpAs
namespace Go.Proofs.YtbnhfjhhbgmhfaaDoor
open Go.RowKit Go.PlainAid

theorem sR_fld (s : ByteArray) : ∀ (f i p : Nat) (l : List PF), s.size - i = f → i ≤ s.size → (∀ x ∈ l, fldB x = true) → ∀ x ∈ (sR s i p l).1, fldB x = true
  | f, i, p, l, hf, hi, h => by
    by_cases hlt : i < s.size
    · rw [sR_step hlt]
      have hrm := runTo_more hlt
      have hre := (runTo_ge (s := s) (b := bt s i) _ i rfl).2 hi
      split
      · exact fun x hx => absurd hx (by simp)
      · rename_i hb
        refine sR_fld s _ _ _ _ rfl hre (fun y hy => ?_)
        rcases List.mem_append.1 hy with hy | hy
        · exact h y hy
        · simp at hy
          subst hy
          have h0 : plainB (bt s i) ≠ 0 := fun e => by
            have hr := rank_plain (bt s i)
            rw [e] at hr
            have : rankB 0 = 0 := rfl
            omega
          unfold fldB
          rw [if_neg h0]
          refine decide_eq_true ⟨rfl, ?_, ?_, ?_⟩
          · rw [rank_plain]; omega
          · simp only; omega
          · simp only; rw [rank_plain]; omega
    · rw [sR_end hlt]
      exact h
  termination_by f => f
  decreasing_by all_goals omega
theorem skel_fin (s : ByteArray) : PFin (skel s).1 := by
  have hsk := skel_sk s
  refine ⟨by have := hsk.1; omega, fun x hx => ⟨?_, (hsk.2 x hx).2.1, (hsk.2 x hx).2.2.1, by rw [(hsk.2 x hx).1]; decide⟩⟩
  unfold skel at hx
  by_cases h : 64 < s.size
  · rw [if_pos h] at hx; exact absurd hx (by simp)
  · rw [if_neg h] at hx
    exact sR_fld s _ 0 0 [] rfl (Nat.zero_le _) (fun x hx => absurd hx (by simp)) x hx

set_option maxRecDepth 100000 in
set_option maxHeartbeats 4000000 in
theorem datepatSkeletons_walk (a b : ByteArray) (c : Int) (w : World) (hc0 : 0 ≤ c) (hc1 : c ≤ 255) (hsa : a.size ≤ 140737488351232) (hsb : b.size ≤ 140737488351232) (hG : Gl w) :
    Calls Tryd.prog 8 #[.string a, .string b, .int .u8 c] w fun e w' => e = .returned (.bool true) ∧ Below w.heap.size w w' := by
  have hka := skel_sk a
  have hkb := skel_sk b
  have hfa := skel_fin a
  have hs := fun W => skelS_any a W (by omega)
  have hqa := fun W => rSkel_any a W (by omega)
  have hqb := fun W => rSkel_any b W (by omega)
  have hp := fun W => apartS_any a b W (by omega) (by omega)
  have hr : dpApart a b = if (skel a).2.1 = 0 ∧ (skel b).2.1 = 0 then (apartL (skel a).1 (skel b).1, 0) else (0, 272) := rfl
  generalize dpApart a b = R at *
  generalize skel a = ra at *
  generalize skel b = rb at *
  obtain ⟨LA, EA, AA⟩ := ra
  obtain ⟨LB, EB, AB⟩ := rb
  obtain ⟨N, F⟩ := R
  simp only at hr
  have hap := fun va vb W h1 h2 => rApart_any va vb LA LB W h1 h2 hka hkb
  have hpr := fun v W h => rPrint_any v LA W h hfa
  have HAP := Lib.hid hap
  have HPR := Lib.hid hpr
  have HR := Lib.hid hr
  have hrk := fun W => rank_any c W
  have hrk2 := fun W => rRank_any c.toNat (by omega) W
  rw [show ((c.toNat : Nat) : Int) = c by omega] at hrk2
  have hla := hka.1
  have hlb := hkb.1
  simp only at hla hlb
  clear hap hpr hr hka hkb hfa
  go_enter Tryd.func8, Tryd.ntmps8
  go_wp2_with fail
  refine (wakes_any _ hG).mono ?_
  rintro e w0 ⟨rfl, hB0⟩
  go_wp2_with fail
  refine (hs _).mono ?_
  rintro e w1 ⟨rfl, hB1⟩
  have s1 := Blk.new w1 #[.int .i64 EA, .int .i64 AA] 26
  have hC1 := (hB0.trans (hB1.mono hB0.size)).alloc (Nat.le_trans hB0.size hB1.size) (.cells #[.int .i64 EA, .int .i64 AA] 26)
  clear hs hB0 hB1
  go_wp2_with fail
  refine (hqa _).mono ?_
  rintro e w2 ⟨⟨v, rfl, hrow⟩, hB2⟩
  have hat := hrow.at (by show LA.length ≤ _; omega)
  obtain ⟨va, vc, rfl⟩ := hrow.form
  have s1a := s1.on hB2
  have hl1 := s1a.lt
  have hC2 := hC1.trans (hB2.mono hC1.size)
  have hA := (Below.refl w2.heap.size w2).alloc (Nat.le_refl _) (.cells #[.int .i64 EA, .int .i64 AA] 26)
  have s2 := Blk.new w2 #[.int .i64 EA, .int .i64 AA] 26
  have s1b := s1a.on hA
  have hat2 := hat.later hA
  have hC2a := hC2.alloc hC2.size (.cells #[.int .i64 EA, .int .i64 AA] 26)
  clear hqa hrow hat s1 s1a hA hC1 hB2
  go_wp2_with fail
  refine (hqb _).mono ?_
  rintro e w3 ⟨⟨v, rfl, hrow⟩, hB3⟩
  have hatb := hrow.at (by show LB.length ≤ _; omega)
  obtain ⟨vb, vd, rfl⟩ := hrow.form
  have s1c := s1b.on hB3
  have s2c := s2.on hB3
  have hl2 := s2c.lt
  have hl1b := s1c.lt
  have hat3 := hat2.later hB3
  have hC3 := hC2a.trans (hB3.mono hC2a.size)
  have hA := (Below.refl w3.heap.size w3).alloc (Nat.le_refl _) (.cells #[.int .i64 EB, .int .i64 AB] 26)
  have s3 := Blk.new w3 #[.int .i64 EB, .int .i64 AB] 26
  have s1d := s1c.on hA
  have s2d := s2c.on hA
  have hat4 := hat3.later hA
  have hatb4 := hatb.later hA
  have hC4 := hC3.alloc hC3.size (.cells #[.int .i64 EB, .int .i64 AB] 26)
  clear hqb hrow hatb hat2 hat3 s1b s1c s2 s2c hA hB3
  go_wp2_with fail
  refine (hp _).mono ?_
  rintro e w5 ⟨rfl, hB5⟩
  have s1e := s1d.on hB5
  have s2e := s2d.on hB5
  have s3e := s3.on hB5
  have hat5 := hat4.later hB5
  have hatb5 := hatb4.later hB5
  have hC5 := hC4.trans (hB5.mono hC4.size)
  clear hp s1d s2d s3 hat4 hatb4 hB5
  have c0 := s1e.cell 0
  have c1 := s1e.cell 1
  have d0 := s2e.cell 0
  have d1 := s2e.cell 1
  simp at c0 c1 d0 d1
  go_wp2_with fail
  refine (HPR.out _ _ hat5).mono ?_
  rintro e w6 ⟨rfl, hB6⟩
  have s2f := s2e.on hB6
  have s3f := s3e.on hB6
  have hat6 := hat5.later hB6
  have hatb6 := hatb5.later hB6
  have hC6 := hC5.trans (hB6.mono hC5.size)
  have hz6 := hC6.size
  clear s1e s2e s3e hat5 hatb5 hB6 c0 c1 d0 d1
  have d0 := s2f.cell 0
  have d1 := s2f.cell 1
  have q0 := s3f.cell 0
  have q1 := s3f.cell 1
  simp at d0 d1 q0 q1
  go_wp2_with fail
  refine (hrk _).mono ?_
  rintro e w7 ⟨rfl, rfl⟩
  go_wp2_with fail
  refine (hrk2 _).mono ?_
  rintro e w7 ⟨rfl, rfl⟩
  clear hrk hrk2
  by_cases ha : EA = 0
  · have haI : (EA != 0) = false := by simp [ha]
    by_cases hb : EB = 0
    · have hbI : (EB != 0) = false := by simp [hb]
      have hr2 : N = apartL LA LB ∧ F = 0 := by have h := HR.out; rw [if_pos ⟨ha, hb⟩] at h; exact ⟨congrArg Prod.fst h, congrArg Prod.snd h⟩
      obtain ⟨rfl, rfl⟩ := hr2
      clear ha hb
      go_wp2_with fail
      refine (HAP.out _ _ _ hat6 hatb6).mono ?_
      rintro e w8 ⟨rfl, hB8⟩
      go_wp2_with fail
      go_ret
      exact ⟨rfl, hC6.trans (hB8.mono hC6.size)⟩
    · have hbI : (EB != 0) = true := by simpa using hb
      have hr2 : N = 0 ∧ F = 272 := by have h := HR.out; rw [if_neg (fun h => hb h.2)] at h; exact ⟨congrArg Prod.fst h, congrArg Prod.snd h⟩
      obtain ⟨rfl, rfl⟩ := hr2
      clear ha hb
      go_wp2_with fail
      go_ret
      exact ⟨rfl, hC6⟩
  · have haI : (EA != 0) = true := by simpa using ha
    have hr2 : N = 0 ∧ F = 272 := by have h := HR.out; rw [if_neg (fun h => ha h.1)] at h; exact ⟨congrArg Prod.fst h, congrArg Prod.snd h⟩
    obtain ⟨rfl, rfl⟩ := hr2
    clear ha
    go_wp2_with fail
    go_ret
    exact ⟨rfl, hC6⟩
end Go.Proofs.YtbnhfjhhbgmhfaaDoor
