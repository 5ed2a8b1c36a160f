/-
  The walk of XmlReferences: it returns true for every name and number.
-/
import Derived.Test.YtnmpbphnfiiafaaGreatDoorXmZn
namespace Go.Proofs.YtnmpbphnfiiafaaGreatDoor
open Go.RowKit Go.PlainAid

section
set_option maxRecDepth 100000
set_option maxHeartbeats 8000000
theorem xmlReferences_walk (nm : ByteArray) (n : Int) (w : World) (h0 : -9223372036854775808 ≤ n) (hn : n ≤ 9223372036854775807) (hsz : nm.size ≤ 140737488351232) (hG : Gl w) :
    Calls Tryz.prog 6 #[.string nm, .int .i64 n] w fun e w' => e = .returned (.bool true) ∧ Below w.heap.size w w' := by
  have HWK := Lib.hid (wakes_any w hG)
  have HG := Lib.hid hG
  clear hG
  go_enter Tryz.func6, Tryz.ntmps6
  go_wp2_with fail
  refine HWK.out.mono ?_
  rintro e w1 ⟨rfl, hB1⟩
  have HB1 := Lib.hid hB1
  clear hB1
  go_upto_region 3 with fail
  go_cut [0] (fun s0 wx => ∃ x : ByteArray, s0 = .string x ∧ x.size ≤ 20 ∧ w1 = wx)
  case first =>
    by_cases h20 : nm.size ≤ 20
    · have hm : min (nm.size : Int) 20 = nm.size := by omega
      have hI1 : (0 : Int) ≤ nm.size := by omega
      have hI2 : ((nm.size : Int)).toNat = nm.size := by omega
      have HH := Lib.hid h20
      go_wp2_with fail
      go_meet
      case rel => exact ⟨_, rfl, by first | exact HH.out | (rw [ByteArray.size_extract]; have := HH.out; omega), rfl⟩
    · have hm : min (nm.size : Int) 20 = 20 := by omega
      have hI1 : (20 : Int) ≤ nm.size := by omega
      go_wp2_with fail
      go_meet
      case rel => exact ⟨_, rfl, by first | (rw [ByteArray.size_extract]; omega) | (simp; omega), rfl⟩
  case rest =>
  obtain ⟨x, rfl, hx, rfl⟩ := hcut
  have hdg := digits_any n hn h0 w1
  go_wp2_with fail
  refine hdg.mono ?_
  rintro e w' ⟨⟨d, rfl, hd⟩, rfl⟩
  clear hdg
  go_wp2_with fail
  obtain ⟨A, hA⟩ : ∃ A : ByteArray, (⟨#[38]⟩ ++ x) ++ ⟨#[59]⟩ = A := ⟨_, rfl⟩
  obtain ⟨B, hB⟩ : ∃ B : ByteArray, (⟨#[38, 35]⟩ ++ d) ++ ⟨#[59]⟩ = B := ⟨_, rfl⟩
  have hAz : A.size ≤ 200 := by
    rw [← hA, ByteArray.size_append, ByteArray.size_append]
    have h1 : (⟨#[38]⟩ : ByteArray).size = 1 := rfl
    have h2 : (⟨#[59]⟩ : ByteArray).size = 1 := rfl
    omega
  have hBz : B.size ≤ 200 := by
    rw [← hB, ByteArray.size_append, ByteArray.size_append]
    have h1 : (⟨#[38, 35]⟩ : ByteArray).size = 2 := rfl
    have h2 : (⟨#[59]⟩ : ByteArray).size = 1 := rfl
    omega
  rw [hA, hB]
  clear hA hB hd hx
  go_loopg [30] 3 (fun f s30 wx => ∃ i : Nat, s30 = .int .i64 (i : Int) ∧ f + i = 3 ∧ i ≤ 2 ∧ Below w.heap.size w wx)
  case atStart => exact ⟨0, rfl, rfl, by omega, HB1.out⟩
  case round =>
    obtain ⟨i, rfl, hg, hi, hBB⟩ := hrel
    have HGG := Lib.hid hg
    have HB1 := Lib.hid hBB
    have hG1 : Gx wr := HG.out.on hBB
    have HG1 := Lib.hid hG1
    clear hg hBB hG1
    by_cases hlt : i < 2
    · obtain ⟨X, hX, hidx⟩ : ∃ X : ByteArray, X.size ≤ 200 ∧ ∀ W, (Instr.index 41 (.agg #[.string A, .string B]) (.int .i64 (i : Int))).run Tryz.prog W = .ok (.string X) W := by
        have hi2 : i = 0 ∨ i = 1 := by omega
        rcases hi2 with rfl | rfl
        · exact ⟨A, hAz, idx_two0 A B⟩
        · exact ⟨B, hBz, idx_two1 A B⟩
      have hI : (i : Int) < 2 := by omega
      have f1 : IntKind.i64.wrap ((i : Int) + 1) = (i : Int) + 1 := IntWalk.i64_in _ (by omega)
      have HUN := Lib.hid (fun W (hG : Gx W) => (unescape_any X W (by omega) hG).mono fun _ _ h => h.read)
      have HRU := Lib.hid (fun W => (rUnescape_any X W (by omega)).mono fun _ _ h => h.read)
      have HLT := Lib.hid hlt
      have hself := bytes_eqb (unB X) (unB X)
      rw [decide_eq_true rfl] at hself
      clear hlt hi
      go_wp2_with fail
      refine (HUN.out _ HG1.out).mono ?_
      rintro e w2 ⟨rfl, hB2⟩
      go_upto_region 8 with fail
      generalize unB X = U at *
      generalize unE X = UE at *
      generalize unA X = UA at *
      have hA1 := (Below.refl w2.heap.size w2).alloc (Nat.le_refl _) (.cells #[.int .i64 UE, .int .i64 UA] 26)
      have hT1 := Blk.new w2 #[.int .i64 UE, .int .i64 UA] 26
      have HB2 := Lib.hid (HB1.out.trans ((hB2.mono HB1.out.size).trans (hA1.mono (Nat.le_trans HB1.out.size hB2.size))))
      have hlo2 : w.heap.size ≤ w2.heap.size := Nat.le_trans HB1.out.size hB2.size
      generalize w2.alloc (.cells #[.int .i64 UE, .int .i64 UA] 26) = w3 at *
      generalize w2.heap.size = s8 at *
      clear hA1 hB2 HUN
      go_wp2_with fail
      refine (HRU.out w3).mono ?_
      rintro e w4 ⟨rfl, hB4⟩
      clear HRU
      go_upto_region 9 with fail
      have hA2 := (Below.refl w4.heap.size w4).alloc (Nat.le_refl _) (.cells #[.int .i64 UE, .int .i64 UA] 26)
      have hT2 := (hT1.on hB4).on hA2
      have hS2 := Blk.new w4 #[.int .i64 UE, .int .i64 UA] 26
      have HB4 := Lib.hid (HB2.out.trans ((hB4.mono HB2.out.size).trans (hA2.mono (Nat.le_trans HB2.out.size hB4.size))))
      generalize w4.alloc (.cells #[.int .i64 UE, .int .i64 UA] 26) = w5 at *
      generalize w4.heap.size = s10 at *
      have c0 : w5.cell? ⟨s8, 0, none⟩ = some (.int .i64 UE) := hT2.cell 0
      have c1 : w5.cell? ⟨s8, 1, none⟩ = some (.int .i64 UA) := hT2.cell 1
      have d0 : w5.cell? ⟨s10, 0, none⟩ = some (.int .i64 UE) := hS2.cell 0
      have d1 : w5.cell? ⟨s10, 1, none⟩ = some (.int .i64 UA) := hS2.cell 1
      have HT2 := Lib.hid hT2
      clear hA2 hT1 hT2 hS2 hB4 hself
      go_wp2_with fail
      have HG5 := Lib.hid (HG.out.on HB4.out)
      clear c0 c1 d0 d1
      refine both_use HG5.out ?_
      intro E L0 L HRT v w6 hO6 hB6
      have hT6 := HT2.out.on hB6
      have k0 : w6.cell? ⟨s8, 0, none⟩ = some (.int .i64 UE) := hT6.cell 0
      have k1 : w6.cell? ⟨s8, 1, none⟩ = some (.int .i64 UA) := hT6.cell 1
      have g0 := hT6.free 0
      have g1 := hT6.free 1
      have hT7 := (hT6.set 0 (.int .i64 E)).set 1 (.int .i64 L0)
      have hO7 : OutAt w5.heap.size ((w6.setCell ⟨s8, 0, none⟩ (.int .i64 E)).setCell ⟨s8, 1, none⟩ (.int .i64 L0)) v L := by
        have h8 : s8 < w5.heap.size := HT2.out.lt
        refine hO6.later (fun g hg => ?_) (fun g c hg hc => ?_)
        · have := (hO6.own g hg).1
          exact (Below.heap_setCell _ _ _ _ (by simp; omega)).trans (Below.heap_setCell _ _ _ _ (by simp; omega))
        · exact (Below.heap_setCell _ _ _ _ (by simp; omega)).trans (Below.heap_setCell _ _ _ _ (by simp; omega))
      have HB7 := Lib.hid (((HB4.out.trans (hB6.mono HB4.out.size)).setCell (p := ⟨s8, 0, none⟩) hlo2 (.int .i64 E)).setCell (p := ⟨s8, 1, none⟩) hlo2 (.int .i64 L0))
      have HO7 := Lib.hid hO7; have HT7 := Lib.hid hT7
      clear hT6 hT7 hO7 hO6 hB6 HT2
      go_upto_region 13 with fail
      generalize (w6.setCell ⟨s8, 0, none⟩ (.int .i64 E)).setCell ⟨s8, 1, none⟩ (.int .i64 L0) = w7 at *
      clear k0 k1 g0 g1
      go_wp2_with fail
      refine (HRT.out w7).mono ?_
      rintro e w8 ⟨v2, rfl, hO8, hB8⟩
      clear HRT
      go_upto_region 14 with fail
      have hA3 := (Below.refl w8.heap.size w8).alloc (Nat.le_refl _) (.cells #[.int .i64 E, .int .i64 L0] 26)
      have hT9 := (HT7.out.on hB8).on hA3
      have hS9 := Blk.new w8 #[.int .i64 E, .int .i64 L0] 26
      have hO9 := (HO7.out.on hB8).on hA3
      have hP9 := hO8.on hA3
      have HB9 := Lib.hid (HB7.out.trans ((hB8.mono HB7.out.size).trans (hA3.mono (Nat.le_trans HB7.out.size hB8.size))))
      generalize w8.alloc (.cells #[.int .i64 E, .int .i64 L0] 26) = w9 at *
      generalize w8.heap.size = s14 at *
      have c0 : w9.cell? ⟨s8, 0, none⟩ = some (.int .i64 E) := hT9.cell 0
      have c1 : w9.cell? ⟨s8, 1, none⟩ = some (.int .i64 L0) := hT9.cell 1
      have d0 : w9.cell? ⟨s14, 0, none⟩ = some (.int .i64 E) := hS9.cell 0
      have d1 : w9.cell? ⟨s14, 1, none⟩ = some (.int .i64 L0) := hS9.cell 1
      have HSM := Lib.hid (same_yes w9 v v2 L hO9.tks hP9.tks hO9.max.1 hO9.max.2)
      clear hA3 hT9 hS9 hO8 hO9 hP9 hB8 HO7 HT7
      go_wp2_with fail
      refine HSM.out.mono ?_
      rintro e wz ⟨rfl, hBz⟩
      have HBZ := Lib.hid (HB9.out.trans (hBz.mono HB9.out.size))
      clear hBz HSM
      go_wp2_with fail
      go_roundg (2 - i)
      case rel => exact ⟨i + 1, by simp, by have := HGG.out; have := HLT.out; omega, HLT.out, HBZ.out⟩
      case measure => have := HGG.out; have := HLT.out; omega
    · have hI : ¬ (i : Int) < 2 := by omega
      go_wp2_with fail
      go_ret
      exact ⟨rfl, HB1.out⟩
end
end Go.Proofs.YtnmpbphnfiiafaaGreatDoor
