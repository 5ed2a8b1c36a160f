/-
  The walk of XmlLimits: it returns true for every two numbers.
-/
import Derived.Test.YtnmpbphnfiiafaaGreatDoorXmZn
namespace Go.Proofs.YtnmpbphnfiiafaaGreatDoor
open Go.RowKit Go.PlainAid

section
set_option maxRecDepth 100000
set_option maxHeartbeats 8000000
theorem xmlLimits_walk (kd n : Int) (w : World) (_ : -9223372036854775808 ≤ kd) (_ : kd ≤ 9223372036854775807) (h0 : -9223372036854775808 ≤ n) (hn : n ≤ 9223372036854775807) (hG : Gl w) :
    Calls Tryz.prog 4 #[.int .i64 kd, .int .i64 n] w fun e w' => e = .returned (.bool true) ∧ Below w.heap.size w w' := by
  have HWK := Lib.hid (wakes_any w hG)
  have HG := Lib.hid hG
  clear hG
  go_enter Tryz.func4, Tryz.ntmps4
  go_wp2_with fail
  refine HWK.out.mono ?_
  rintro e w1 ⟨rfl, hB1⟩
  have HB1 := Lib.hid hB1
  clear hB1
  go_upto_region 3 with fail
  go_cut [1] (fun s1 wx => ∃ m : Nat, s1 = .int .i64 (m : Int) ∧ m ≤ 11 ∧ w1 = wx)
  case first =>
    by_cases hneg : n < 0
    · have hm : max n 0 = 0 := by omega
      go_wp2_with fail
      go_meet
      case rel => exact ⟨0, by first | done | rfl | (congr 1; omega), by omega, rfl⟩
    · have hm : max n 0 = n := by omega
      obtain ⟨m, hmm⟩ : ∃ m : Nat, n % 12 = (m : Int) := ⟨(n % 12).toNat, by omega⟩
      go_wp2_with fail
      go_meet
      case rel => exact ⟨m, by first | exact congrArg _ hmm | (rw [hmm]; done) | rfl | (congr 1; omega), by omega, rfl⟩
  case rest =>
  obtain ⟨m, rfl, hm, rfl⟩ := hcut
  have HG1 := Lib.hid (HG.out.on HB1.out)
  go_wp2_with fail
  · have hmv := many_any ⟨#[110]⟩ (59 + m) (by decide) (by omega) w1
    rw [show ((59 + m : Nat) : Int) = 59 + (m : Int) by omega] at hmv
    refine hmv.mono ?_
    rintro e w' ⟨⟨t, rfl, ht⟩, rfl⟩
    have ht2 : t.size ≤ 1000000 := by omega
    clear hmv ht
    go_wp2_with fail
    refine both_use HG1.out ?_
    intro E A L HRT v w2 hO2 hB2
    go_upto_region 21 with fail
    have hA := (Below.refl w2.heap.size w2).alloc (Nat.le_refl _) (.cells #[.int .i64 E, .int .i64 A] 26)
    have hT := Blk.new w2 #[.int .i64 E, .int .i64 A] 26
    have hO3 := hO2.on hA
    have HB3 := Lib.hid (HB1.out.trans ((hB2.mono HB1.out.size).trans (hA.mono (Nat.le_trans HB1.out.size hB2.size))))
    generalize w2.alloc (.cells #[.int .i64 E, .int .i64 A] 26) = w3 at *
    generalize w2.heap.size = sb at *
    clear hA hB2 hO2
    go_wp2_with fail
    refine (HRT.out w3).mono ?_
    rintro e w4 ⟨v2, rfl, hO4, hB4⟩
    go_upto_region 22 with fail
    have hA := (Below.refl w4.heap.size w4).alloc (Nat.le_refl _) (.cells #[.int .i64 E, .int .i64 A] 26)
    have hT5 := (hT.on hB4).on hA
    have hS5 := Blk.new w4 #[.int .i64 E, .int .i64 A] 26
    have hO5 := (hO3.on hB4).on hA
    have hP5 := hO4.on hA
    have HB5 := Lib.hid (HB3.out.trans ((hB4.mono HB3.out.size).trans (hA.mono (Nat.le_trans HB3.out.size hB4.size))))
    generalize w4.alloc (.cells #[.int .i64 E, .int .i64 A] 26) = w5 at *
    generalize w4.heap.size = sc at *
    have c0 : w5.cell? ⟨sb, 0, none⟩ = some (.int .i64 E) := hT5.cell 0
    have c1 : w5.cell? ⟨sb, 1, none⟩ = some (.int .i64 A) := hT5.cell 1
    have d0 : w5.cell? ⟨sc, 0, none⟩ = some (.int .i64 E) := hS5.cell 0
    have d1 : w5.cell? ⟨sc, 1, none⟩ = some (.int .i64 A) := hS5.cell 1
    have HSM := Lib.hid (same_yes w5 v v2 L hO5.tks hP5.tks hO5.max.1 hO5.max.2)
    clear hA hT hT5 hS5 hO3 hO4 hO5 hP5 hB4 HRT
    go_wp2_with fail
    refine HSM.out.mono ?_
    rintro e w6 ⟨rfl, hB6⟩
    go_wp2_with fail
    go_ret
    exact ⟨rfl, HB5.out.trans (hB6.mono HB5.out.size)⟩
  · rename_i hx0 hx1 K9 hK9
    clear hx0 hx1
    go_loopg [5, 6] (m + 12) (fun f s5 s6 wx => ∃ (i : Nat) (t : ByteArray), s5 = .string t ∧ s6 = .int .i64 (i : Int) ∧ f + i = m + 12 ∧ i ≤ m + 11 ∧ t.size ≤ 200 * i + 10 ∧ w1 = wx)
    case atStart => exact ⟨0, _, rfl, rfl, rfl, Nat.zero_le _, by decide, rfl⟩
    case round =>
      obtain ⟨i, t, rfl, rfl, hg, hi, ht, rfl⟩ := hrel
      have HGG := Lib.hid hg
      have f1 : IntKind.i64.wrap ((i : Int) + 1) = (i : Int) + 1 := IntWalk.i64_in _ (by omega)
      have ht2 : t.size ≤ 1000000 := by omega
      have HT := Lib.hid ht
      clear hg ht
      by_cases hlt : i < m + 11
      · have hI : (i : Int) < 11 + (m : Int) := by omega
        have HLT := Lib.hid hlt
        have hdg := digits_any (i : Int) (by omega) (by omega) w1
        clear hlt
        go_wp2_with fail
        refine hdg.mono ?_
        rintro e w' ⟨⟨a, rfl, ha⟩, rfl⟩
        have hdg2 := digits_any (i : Int) (by omega) (by omega) w1
        clear hdg
        go_wp2_with fail
        refine hdg2.mono ?_
        rintro e w' ⟨⟨b, rfl, hb⟩, rfl⟩
        clear hdg2
        go_wp2_with fail
        go_roundg (m + 11 - i)
        case rel => exact ⟨i + 1, _, rfl, by simp, by have := HGG.out; have := HLT.out; omega, HLT.out, by rw [ByteArray.size_append, ByteArray.size_append, ByteArray.size_append, ByteArray.size_append, ByteArray.size_append]; have h1 : (⟨#[32, 120]⟩ : ByteArray).size = 2 := rfl; have h2 : (⟨#[61, 39]⟩ : ByteArray).size = 2 := rfl; have h3 : (⟨#[39]⟩ : ByteArray).size = 1 := rfl; have := HT.out; omega, rfl⟩
        case measure => have := HGG.out; have := HLT.out; omega
      · have hI : ¬ (i : Int) < 11 + (m : Int) := by omega
        clear f1
        go_wp2_with fail
        refine both_use HG1.out ?_
        intro E A L HRT v w2 hO2 hB2
        go_upto_region 21 with fail
        have hA := (Below.refl w2.heap.size w2).alloc (Nat.le_refl _) (.cells #[.int .i64 E, .int .i64 A] 26)
        have hT := Blk.new w2 #[.int .i64 E, .int .i64 A] 26
        have hO3 := hO2.on hA
        have HB3 := Lib.hid (HB1.out.trans ((hB2.mono HB1.out.size).trans (hA.mono (Nat.le_trans HB1.out.size hB2.size))))
        generalize w2.alloc (.cells #[.int .i64 E, .int .i64 A] 26) = w3 at *
        generalize w2.heap.size = sb at *
        clear hA hB2 hO2
        go_wp2_with fail
        refine (HRT.out w3).mono ?_
        rintro e w4 ⟨v2, rfl, hO4, hB4⟩
        go_upto_region 22 with fail
        have hA := (Below.refl w4.heap.size w4).alloc (Nat.le_refl _) (.cells #[.int .i64 E, .int .i64 A] 26)
        have hT5 := (hT.on hB4).on hA
        have hS5 := Blk.new w4 #[.int .i64 E, .int .i64 A] 26
        have hO5 := (hO3.on hB4).on hA
        have hP5 := hO4.on hA
        have HB5 := Lib.hid (HB3.out.trans ((hB4.mono HB3.out.size).trans (hA.mono (Nat.le_trans HB3.out.size hB4.size))))
        generalize w4.alloc (.cells #[.int .i64 E, .int .i64 A] 26) = w5 at *
        generalize w4.heap.size = sc at *
        have c0 : w5.cell? ⟨sb, 0, none⟩ = some (.int .i64 E) := hT5.cell 0
        have c1 : w5.cell? ⟨sb, 1, none⟩ = some (.int .i64 A) := hT5.cell 1
        have d0 : w5.cell? ⟨sc, 0, none⟩ = some (.int .i64 E) := hS5.cell 0
        have d1 : w5.cell? ⟨sc, 1, none⟩ = some (.int .i64 A) := hS5.cell 1
        have HSM := Lib.hid (same_yes w5 v v2 L hO5.tks hP5.tks hO5.max.1 hO5.max.2)
        clear hA hT hT5 hS5 hO3 hO4 hO5 hP5 hB4 HRT
        go_wp2_with fail
        refine HSM.out.mono ?_
        rintro e w6 ⟨rfl, hB6⟩
        go_wp2_with fail
        go_ret
        exact ⟨rfl, HB5.out.trans (hB6.mono HB5.out.size)⟩
  · have hmv := many_any ⟨#[118]⟩ (4090 + m) (by decide) (by omega) w1
    rw [show ((4090 + m : Nat) : Int) = 4090 + (m : Int) by omega] at hmv
    refine hmv.mono ?_
    rintro e w' ⟨⟨t, rfl, ht⟩, rfl⟩
    have ht2 : t.size ≤ 1000000 := by omega
    clear hmv ht
    go_wp2_with fail
    refine both_use HG1.out ?_
    intro E A L HRT v w2 hO2 hB2
    go_upto_region 21 with fail
    have hA := (Below.refl w2.heap.size w2).alloc (Nat.le_refl _) (.cells #[.int .i64 E, .int .i64 A] 26)
    have hT := Blk.new w2 #[.int .i64 E, .int .i64 A] 26
    have hO3 := hO2.on hA
    have HB3 := Lib.hid (HB1.out.trans ((hB2.mono HB1.out.size).trans (hA.mono (Nat.le_trans HB1.out.size hB2.size))))
    generalize w2.alloc (.cells #[.int .i64 E, .int .i64 A] 26) = w3 at *
    generalize w2.heap.size = sb at *
    clear hA hB2 hO2
    go_wp2_with fail
    refine (HRT.out w3).mono ?_
    rintro e w4 ⟨v2, rfl, hO4, hB4⟩
    go_upto_region 22 with fail
    have hA := (Below.refl w4.heap.size w4).alloc (Nat.le_refl _) (.cells #[.int .i64 E, .int .i64 A] 26)
    have hT5 := (hT.on hB4).on hA
    have hS5 := Blk.new w4 #[.int .i64 E, .int .i64 A] 26
    have hO5 := (hO3.on hB4).on hA
    have hP5 := hO4.on hA
    have HB5 := Lib.hid (HB3.out.trans ((hB4.mono HB3.out.size).trans (hA.mono (Nat.le_trans HB3.out.size hB4.size))))
    generalize w4.alloc (.cells #[.int .i64 E, .int .i64 A] 26) = w5 at *
    generalize w4.heap.size = sc at *
    have c0 : w5.cell? ⟨sb, 0, none⟩ = some (.int .i64 E) := hT5.cell 0
    have c1 : w5.cell? ⟨sb, 1, none⟩ = some (.int .i64 A) := hT5.cell 1
    have d0 : w5.cell? ⟨sc, 0, none⟩ = some (.int .i64 E) := hS5.cell 0
    have d1 : w5.cell? ⟨sc, 1, none⟩ = some (.int .i64 A) := hS5.cell 1
    have HSM := Lib.hid (same_yes w5 v v2 L hO5.tks hP5.tks hO5.max.1 hO5.max.2)
    clear hA hT hT5 hS5 hO3 hO4 hO5 hP5 hB4 HRT
    go_wp2_with fail
    refine HSM.out.mono ?_
    rintro e w6 ⟨rfl, hB6⟩
    go_wp2_with fail
    go_ret
    exact ⟨rfl, HB5.out.trans (hB6.mono HB5.out.size)⟩
  · have hmv := many_any ⟨#[116]⟩ (4090 + m) (by decide) (by omega) w1
    rw [show ((4090 + m : Nat) : Int) = 4090 + (m : Int) by omega] at hmv
    refine hmv.mono ?_
    rintro e w' ⟨⟨t, rfl, ht⟩, rfl⟩
    have ht2 : t.size ≤ 1000000 := by omega
    clear hmv ht
    go_wp2_with fail
    refine both_use HG1.out ?_
    intro E A L HRT v w2 hO2 hB2
    go_upto_region 21 with fail
    have hA := (Below.refl w2.heap.size w2).alloc (Nat.le_refl _) (.cells #[.int .i64 E, .int .i64 A] 26)
    have hT := Blk.new w2 #[.int .i64 E, .int .i64 A] 26
    have hO3 := hO2.on hA
    have HB3 := Lib.hid (HB1.out.trans ((hB2.mono HB1.out.size).trans (hA.mono (Nat.le_trans HB1.out.size hB2.size))))
    generalize w2.alloc (.cells #[.int .i64 E, .int .i64 A] 26) = w3 at *
    generalize w2.heap.size = sb at *
    clear hA hB2 hO2
    go_wp2_with fail
    refine (HRT.out w3).mono ?_
    rintro e w4 ⟨v2, rfl, hO4, hB4⟩
    go_upto_region 22 with fail
    have hA := (Below.refl w4.heap.size w4).alloc (Nat.le_refl _) (.cells #[.int .i64 E, .int .i64 A] 26)
    have hT5 := (hT.on hB4).on hA
    have hS5 := Blk.new w4 #[.int .i64 E, .int .i64 A] 26
    have hO5 := (hO3.on hB4).on hA
    have hP5 := hO4.on hA
    have HB5 := Lib.hid (HB3.out.trans ((hB4.mono HB3.out.size).trans (hA.mono (Nat.le_trans HB3.out.size hB4.size))))
    generalize w4.alloc (.cells #[.int .i64 E, .int .i64 A] 26) = w5 at *
    generalize w4.heap.size = sc at *
    have c0 : w5.cell? ⟨sb, 0, none⟩ = some (.int .i64 E) := hT5.cell 0
    have c1 : w5.cell? ⟨sb, 1, none⟩ = some (.int .i64 A) := hT5.cell 1
    have d0 : w5.cell? ⟨sc, 0, none⟩ = some (.int .i64 E) := hS5.cell 0
    have d1 : w5.cell? ⟨sc, 1, none⟩ = some (.int .i64 A) := hS5.cell 1
    have HSM := Lib.hid (same_yes w5 v v2 L hO5.tks hP5.tks hO5.max.1 hO5.max.2)
    clear hA hT hT5 hS5 hO3 hO4 hO5 hP5 hB4 HRT
    go_wp2_with fail
    refine HSM.out.mono ?_
    rintro e w6 ⟨rfl, hB6⟩
    go_wp2_with fail
    go_ret
    exact ⟨rfl, HB5.out.trans (hB6.mono HB5.out.size)⟩
  · have hmv2 := many_any ⟨#[60, 47, 101, 62]⟩ (59 + m) (by decide) (by omega) w1
    rw [show ((59 + m : Nat) : Int) = 59 + (m : Int) by omega] at hmv2
    have hmv := many_any ⟨#[60, 101, 62]⟩ (59 + m) (by decide) (by omega) w1
    rw [show ((59 + m : Nat) : Int) = 59 + (m : Int) by omega] at hmv
    refine hmv.mono ?_
    rintro e w' ⟨⟨t, rfl, ht⟩, rfl⟩
    have ht2 : t.size ≤ 1000000 := by omega
    clear hmv ht
    go_wp2_with fail
    refine hmv2.mono ?_
    rintro e w' ⟨⟨t2, rfl, ht3⟩, rfl⟩
    have ht4 : t2.size ≤ 1000000 := by omega
    clear hmv2 ht3
    go_wp2_with fail
    refine both_use HG1.out ?_
    intro E A L HRT v w2 hO2 hB2
    go_upto_region 21 with fail
    have hA := (Below.refl w2.heap.size w2).alloc (Nat.le_refl _) (.cells #[.int .i64 E, .int .i64 A] 26)
    have hT := Blk.new w2 #[.int .i64 E, .int .i64 A] 26
    have hO3 := hO2.on hA
    have HB3 := Lib.hid (HB1.out.trans ((hB2.mono HB1.out.size).trans (hA.mono (Nat.le_trans HB1.out.size hB2.size))))
    generalize w2.alloc (.cells #[.int .i64 E, .int .i64 A] 26) = w3 at *
    generalize w2.heap.size = sb at *
    clear hA hB2 hO2
    go_wp2_with fail
    refine (HRT.out w3).mono ?_
    rintro e w4 ⟨v2, rfl, hO4, hB4⟩
    go_upto_region 22 with fail
    have hA := (Below.refl w4.heap.size w4).alloc (Nat.le_refl _) (.cells #[.int .i64 E, .int .i64 A] 26)
    have hT5 := (hT.on hB4).on hA
    have hS5 := Blk.new w4 #[.int .i64 E, .int .i64 A] 26
    have hO5 := (hO3.on hB4).on hA
    have hP5 := hO4.on hA
    have HB5 := Lib.hid (HB3.out.trans ((hB4.mono HB3.out.size).trans (hA.mono (Nat.le_trans HB3.out.size hB4.size))))
    generalize w4.alloc (.cells #[.int .i64 E, .int .i64 A] 26) = w5 at *
    generalize w4.heap.size = sc at *
    have c0 : w5.cell? ⟨sb, 0, none⟩ = some (.int .i64 E) := hT5.cell 0
    have c1 : w5.cell? ⟨sb, 1, none⟩ = some (.int .i64 A) := hT5.cell 1
    have d0 : w5.cell? ⟨sc, 0, none⟩ = some (.int .i64 E) := hS5.cell 0
    have d1 : w5.cell? ⟨sc, 1, none⟩ = some (.int .i64 A) := hS5.cell 1
    have HSM := Lib.hid (same_yes w5 v v2 L hO5.tks hP5.tks hO5.max.1 hO5.max.2)
    clear hA hT hT5 hS5 hO3 hO4 hO5 hP5 hB4 HRT
    go_wp2_with fail
    refine HSM.out.mono ?_
    rintro e w6 ⟨rfl, hB6⟩
    go_wp2_with fail
    go_ret
    exact ⟨rfl, HB5.out.trans (hB6.mono HB5.out.size)⟩
end
end Go.Proofs.YtnmpbphnfiiafaaGreatDoor
