/-
  The document's answer: Tokens.
-/
import Derived.Test.YtnmpbphnfiiafaaGreatDoorXmQn
import Derived.Test.YtnmpbphnfiiafaaGreatDoorXmQh
namespace Go.Proofs.YtnmpbphnfiiafaaGreatDoor
open Go.RowKit Go.PlainAid

section
set_option maxRecDepth 100000
set_option maxHeartbeats 16000000
theorem decl_lead {s : ByteArray} (h : wdAt s 0 [60, 63] = false) : wdAt s 0 declB = false ∧ wdAt s 0 declN = false := by
  have key : ∀ l, wdAt s 0 (60 :: 63 :: l) = false := fun l => by
    simp only [wdAt, Bool.and_true, Bool.and_eq_false_iff] at h ⊢
    rcases h with h | h
    · exact .inl h
    · exact .inr (.inl h)
  exact ⟨key _, key _⟩
/-- Where the declaration's end is known, how far the scan has come after i tries. -/
def declAt (s : ByteArray) (i : Nat) : Nat := if 1 ≤ i ∧ wdAt s 0 declB = true then 21 else if 2 ≤ i ∧ wdAt s 0 declN = true then 38 else 0
theorem rTokens_long (s : ByteArray) (w : World) (hz : 262144 < s.size) : Calls Tryz.prog 13 #[.string s] w fun en w' => TokEnd s w en w' := by
  have hx : tokensX s = .bad 3 262144 := by unfold tokensX; rw [if_pos hz]
  obtain ⟨wa, hwa⟩ : ∃ wa, w.alloc (.cells #[.int .i64 0, .int .i64 0] 26) = wa := ⟨_, rfl⟩
  have hSA : wa.heap[w.heap.size]? = some (.cells #[.int .i64 0, .int .i64 0] 26 (0, 0)) := by rw [← hwa]; exact push_new _ _ _ rfl
  have hBA : Below w.heap.size w wa := by rw [← hwa]; exact (Below.refl _ _).alloc (Nat.le_refl _) _
  have g0 := freeH hSA 0
  have g1 := freeH hSA 1
  have k0 := cellH hSA 0
  have k1 := cellH hSA 1
  have hb2 := setH (setH hSA 0 (.int .i64 3)) 1 (.int .i64 262144)
  have z0 := cellH hb2 0
  have z1 := cellH hb2 1
  have HX := Lib.hid hx; have HWA := Lib.hid hwa
  have HB := Lib.hid (show Below w.heap.size w ((wa.setCell ⟨w.heap.size, 0, none⟩ (.int .i64 3)).setCell ⟨w.heap.size, 1, none⟩ (.int .i64 262144)) from (hBA.setCell (Nat.le_refl _) _).setCell (Nat.le_refl _) _)
  have hI : (262144 : Int) < (s.size : Int) := by omega
  clear hx hwa hSA hBA hb2 hz
  go_enter Tryz.func13, Tryz.ntmps13
  go_upto_region 2 with fail
  rw [HWA.out]
  go_wp2_with fail
  refine bodyPost_ret (v := .tuple #[.slice none 0 0, .agg #[.int .i64 3, .int .i64 262144]]) (by simp [results, Tryz.results13, go_sem, z0, z1]) rfl ?_
  unfold TokEnd
  rw [HX.out]
  exact ⟨rfl, HB.out⟩
theorem rTokens_short (s : ByteArray) (w : World) (hz : s.size ≤ 262144) : Calls Tryz.prog 13 #[.string s] w fun en w' => TokEnd s w en w' := by
  have hbr := fun W => rBroken_any s W (by omega)
  have hI : ¬ (262144 : Int) < (s.size : Int) := by omega
  obtain ⟨wa, hwa⟩ : ∃ wa, w.alloc (.cells #[.int .i64 0, .int .i64 0] 26) = wa := ⟨_, rfl⟩
  have hSA : wa.heap[w.heap.size]? = some (.cells #[.int .i64 0, .int .i64 0] 26 (0, 0)) := by rw [← hwa]; exact push_new _ _ _ rfl
  have hBA : Below w.heap.size w wa := by rw [← hwa]; exact (Below.refl _ _).alloc (Nat.le_refl _) _
  have hza : wa.heap.size = w.heap.size + 1 := by rw [← hwa]; simp
  obtain ⟨sb, hsb⟩ : ∃ sb, w.heap.size = sb := ⟨_, rfl⟩
  by_cases hbk : 0 ≤ brk s 0
  · have hx : tokensX s = .bad 6 (brk s 0).toNat := by unfold tokensX; rw [if_neg (by omega), if_pos hbk]
    obtain ⟨a, ha⟩ : ∃ a : Nat, brk s 0 = (a : Int) := ⟨(brk s 0).toNat, (Int.toNat_of_nonneg hbk).symm⟩
    rw [ha] at hbr
    rw [ha, Int.toNat_natCast] at hx
    have hI0 : (0 : Int) ≤ (a : Int) := by omega
    have g0 := freeH hSA 0
    have g1 := freeH hSA 1
    have k0 := cellH hSA 0
    have k1 := cellH hSA 1
    have hb2 := setH (setH hSA 0 (.int .i64 6)) 1 (.int .i64 (a : Int))
    have z0 := cellH hb2 0
    have z1 := cellH hb2 1
    have HX := Lib.hid hx
    have HB := Lib.hid (show Below w.heap.size w ((wa.setCell ⟨w.heap.size, 0, none⟩ (.int .i64 6)).setCell ⟨w.heap.size, 1, none⟩ (.int .i64 (a : Int))) from (hBA.setCell (Nat.le_refl _) _).setCell (Nat.le_refl _) _)
    have HWA := Lib.hid hwa; have HSB := Lib.hid hsb
    clear hx ha hbk hb2 hSA hBA hza hwa
    rw [hsb] at g0 g1 k0 k1 z0 z1
    clear hsb
    go_enter Tryz.func13, Tryz.ntmps13
    go_wp2_with fail
    rw [HWA.out, HSB.out]
    refine (hbr _).mono ?_
    rintro en w' ⟨rfl, rfl⟩
    go_wp2_with fail
    refine bodyPost_ret (v := .tuple #[.slice none 0 0, .agg #[.int .i64 6, .int .i64 (a : Int)]]) (by simp [results, Tryz.results13, go_sem, z0, z1]) rfl ?_
    unfold TokEnd
    rw [HX.out]
    refine ⟨rfl, ?_⟩
    have := HB.out
    rw [HSB.out] at this ⊢
    exact this
  · obtain ⟨R, hRR⟩ : ∃ R : Xr (List Tk), (match declX s with | .bad e a => .bad e a | .ok p _ => bodyX s p) = R := ⟨_, rfl⟩
    have hx0 : tokensX s = R := by
      unfold tokensX
      rw [if_neg (by omega), if_neg hbk, ← hRR]
      cases declX s <;> rfl
    have hID : decide ((0 : Int) ≤ brk s 0) = false := by simpa using hbk
    have hI0 : ¬ (0 : Int) ≤ brk s 0 := hbk
    obtain ⟨w1, hw1⟩ : ∃ w1, wa.alloc (.cells #[.string s, .int .i64 0, .int .i64 0, .int .i64 0, .slice none 0 0, .slice none 0 0, .slice none 0 0, .int .i64 (-1)] 62) = w1 := ⟨_, rfl⟩
    have hU : UnQ w w1 sb (sb + 1) := by
      have hsz : w1.heap.size = w.heap.size + 2 := by rw [← hw1]; simp; omega
      refine ⟨?_, by omega, by omega, by omega, by omega, by omega, ?_⟩
      · rw [← hw1, ← hsb]; exact (Lib.alloc_old _ _ _ (by omega)).trans hSA
      · rw [← hw1]; exact hBA.alloc (by omega) _
    have hM0 : Scn (sb + 1) s 0 0 0 (.slice none 0 0) (.slice none 0 0) (.slice none 0 0) (.int .i64 (-1)) w1 := by
      rw [← hw1]; exact push_new _ _ _ (by omega)
    have hcb : wa.heap.size = sb + 1 := by omega
    have HX0 := Lib.hid hx0; have HU := Lib.hid hU; have HM0 := Lib.hid hM0; have HWA := Lib.hid hwa; have HW1 := Lib.hid hw1; have HSB := Lib.hid hsb; have HCB := Lib.hid hcb; have HRR := Lib.hid hRR
    clear hx0 hbk hU hM0 hwa hw1 hsb hcb hSA hBA hza hRR
    go_enter Tryz.func13, Tryz.ntmps13
    go_wp2_with fail
    rw [HWA.out, HSB.out]
    refine (hbr _).mono ?_
    rintro en w' ⟨rfl, rfl⟩
    go_upto_region 7 with fail
    rw [HW1.out, HCB.out]
    clear HCB HW1 HWA hbr
    generalize hcb : sb + 1 = cb
    rw [hcb] at HU HM0
    clear hcb
    go_cut [22] (fun s22 wx => s22 = .bool (wdAt s 0 [60, 63]) ∧ ScnM cb s 0 0 (.slice none 0 0) (.slice none 0 0) (.slice none 0 0) (.int .i64 (-1)) w1 0 wx)
    case first =>
      have hi := is_any HM0.out (Nat.zero_le _) [60, 63] (by decide)
      have hw : wdAt s 0 (([60, 63] : List UInt8).map fun c => (c.toNat : Int)) = wdAt s 0 [60, 63] := rfl
      rw [hw] at hi
      clear hw
      go_wp2_with fail
      refine hi.mono ?_
      rintro en w2 ⟨rfl, hB2⟩
      have HB2 := Lib.hid hB2
      clear hB2 hi
      go_wp2_with fail
      go_meet
      case rel => exact ⟨rfl, HM0.out.moved HB2.out⟩
    case rest =>
    obtain ⟨rfl, hM⟩ := hcut
    have HM := Lib.hid hM
    clear hM HM0
    go_upto_if 22 with fail
    go_cut [] (fun wx => (∃ p, p ≤ s.size ∧ R = bodyX s p ∧ ScnM cb s 0 0 (.slice none 0 0) (.slice none 0 0) (.slice none 0 0) (.int .i64 (-1)) w1 p wx) ∨ (∃ (e : Int) (a q : Nat), e ≠ 0 ∧ R = .bad e a ∧ q ≤ s.size ∧ ScnM cb s e (a : Int) (.slice none 0 0) (.slice none 0 0) (.slice none 0 0) (.int .i64 (-1)) w1 q wx))
    case first =>
      cases hq : wdAt s 0 [60, 63] with
      | false =>
        have hd : declX s = .ok 0 () := by
          obtain ⟨h1, h2⟩ := decl_lead hq
          unfold declX
          rw [h1, h2, hq]
          rfl
        have HD := Lib.hid (show R = bodyX s 0 by rw [← HRR.out, hd])
        clear hq hd
        go_wp2_with fail
        go_meet
        case rel => exact .inl ⟨0, Nat.zero_le _, HD.out, HM.out⟩
      | true =>
        have HQ := Lib.hid hq
        clear hq
        have i0 : ∀ w : World, (Instr.index 41 (.agg #[.string ⟨#[60, 63, 120, 109, 108, 32, 118, 101, 114, 115, 105, 111, 110, 61, 34, 49, 46, 48, 34, 63, 62]⟩, .string ⟨#[60, 63, 120, 109, 108, 32, 118, 101, 114, 115, 105, 111, 110, 61, 34, 49, 46, 48, 34, 32, 101, 110, 99, 111, 100, 105, 110, 103, 61, 34, 85, 84, 70, 45, 56, 34, 63, 62]⟩]) (.int .i64 0)).run Tryz.prog w = .ok (.string ⟨#[60, 63, 120, 109, 108, 32, 118, 101, 114, 115, 105, 111, 110, 61, 34, 49, 46, 48, 34, 63, 62]⟩) w := fun _ => by kernel_rfl
        have i0b : ∀ w : World, (Instr.index 41 (.agg #[.string ⟨#[60, 63, 120, 109, 108, 32, 118, 101, 114, 115, 105, 111, 110, 61, 34, 49, 46, 48, 34, 63, 62]⟩, .string ⟨#[60, 63, 120, 109, 108, 32, 118, 101, 114, 115, 105, 111, 110, 61, 34, 49, 46, 48, 34, 32, 101, 110, 99, 111, 100, 105, 110, 103, 61, 34, 85, 84, 70, 45, 56, 34, 63, 62]⟩]) (.int .i64 ((0 : Nat) : Int))).run Tryz.prog w = .ok (.string ⟨#[60, 63, 120, 109, 108, 32, 118, 101, 114, 115, 105, 111, 110, 61, 34, 49, 46, 48, 34, 63, 62]⟩) w := fun _ => by kernel_rfl
        have i1 : ∀ w : World, (Instr.index 41 (.agg #[.string ⟨#[60, 63, 120, 109, 108, 32, 118, 101, 114, 115, 105, 111, 110, 61, 34, 49, 46, 48, 34, 63, 62]⟩, .string ⟨#[60, 63, 120, 109, 108, 32, 118, 101, 114, 115, 105, 111, 110, 61, 34, 49, 46, 48, 34, 32, 101, 110, 99, 111, 100, 105, 110, 103, 61, 34, 85, 84, 70, 45, 56, 34, 63, 62]⟩]) (.int .i64 1)).run Tryz.prog w = .ok (.string ⟨#[60, 63, 120, 109, 108, 32, 118, 101, 114, 115, 105, 111, 110, 61, 34, 49, 46, 48, 34, 32, 101, 110, 99, 111, 100, 105, 110, 103, 61, 34, 85, 84, 70, 45, 56, 34, 63, 62]⟩) w := fun _ => by kernel_rfl
        have i1b : ∀ w : World, (Instr.index 41 (.agg #[.string ⟨#[60, 63, 120, 109, 108, 32, 118, 101, 114, 115, 105, 111, 110, 61, 34, 49, 46, 48, 34, 63, 62]⟩, .string ⟨#[60, 63, 120, 109, 108, 32, 118, 101, 114, 115, 105, 111, 110, 61, 34, 49, 46, 48, 34, 32, 101, 110, 99, 111, 100, 105, 110, 103, 61, 34, 85, 84, 70, 45, 56, 34, 63, 62]⟩]) (.int .i64 ((1 : Nat) : Int))).run Tryz.prog w = .ok (.string ⟨#[60, 63, 120, 109, 108, 32, 118, 101, 114, 115, 105, 111, 110, 61, 34, 49, 46, 48, 34, 32, 101, 110, 99, 111, 100, 105, 110, 103, 61, 34, 85, 84, 70, 45, 56, 34, 63, 62]⟩) w := fun _ => by kernel_rfl
        go_wp2_with fail
        go_loopg [24] 3 (fun f s24 wx => ∃ i : Nat, s24 = .int .i64 (i : Int) ∧ f + i = 3 ∧ i ≤ 2 ∧ declAt s i ≤ s.size ∧ ScnM cb s 0 0 (.slice none 0 0) (.slice none 0 0) (.slice none 0 0) (.int .i64 (-1)) w1 (declAt s i) wx)
        case atStart => exact ⟨0, rfl, rfl, by omega, by simp [declAt], by simpa [declAt] using HM.out⟩
        case round =>
          clear HM
          obtain ⟨i, rfl, hg, hi, hle, hM⟩ := hrel
          have HM := Lib.hid hM; have HG := Lib.hid hg
          clear hM hg
          have hi3 : i = 0 ∨ i = 1 ∨ i = 2 := by omega
          rcases hi3 with rfl | rfl | rfl
          · -- the first
            have e0 : declAt s 0 = 0 := by simp [declAt]
            rw [e0] at HM hle
            have c1 : wr.cell? ⟨cb, 1, none⟩ = some (.int .i64 0) := HM.out.1.cell1
            have hi := is_any HM.out.1 (Nat.zero_le _) [60, 63, 120, 109, 108, 32, 118, 101, 114, 115, 105, 111, 110, 61, 34, 49, 46, 48, 34, 63, 62] (by decide)
            have hw : wdAt s 0 (([60, 63, 120, 109, 108, 32, 118, 101, 114, 115, 105, 111, 110, 61, 34, 49, 46, 48, 34, 63, 62] : List UInt8).map fun c => (c.toNat : Int)) = wdAt s 0 declB := rfl
            rw [hw] at hi
            clear hw
            cases hb : wdAt s 0 declB with
            | true =>
              rw [hb] at hi
              have e1 : declAt s 1 = 21 := by unfold declAt; rw [if_pos ⟨by omega, hb⟩]
              have hin := wdAt_in (l := declB) hb (by decide) (Nat.zero_le _)
              have HE := Lib.hid e1
              clear hb e1
              go_wp2_with fail
              refine hi.mono ?_
              rintro en w2 ⟨rfl, hB2⟩
              have hM2 := HM.out.on hB2
              have d1 := hM2.1.cell1
              have d0 := hM2.1.free 1
              have HM3 := Lib.hid (show ScnM cb s 0 0 (.slice none 0 0) (.slice none 0 0) (.slice none 0 0) (.int .i64 (-1)) w1 21 (w2.setCell ⟨cb, 1, none⟩ (.int .i64 21)) from hM2.set 21)
              clear hM2 hB2 hi
              go_wp2_with fail
              go_roundg 2
              case rel => exact ⟨1, rfl, rfl, by omega, by rw [HE.out]; simpa [declB] using hin, by rw [HE.out]; exact HM3.out⟩
              case measure => have := HG.out; omega
            | false =>
              rw [hb] at hi
              have e1 : declAt s 1 = 0 := by unfold declAt; rw [if_neg (by rw [hb]; simp), if_neg (by omega)]
              have HE := Lib.hid e1
              clear hb e1
              go_wp2_with fail
              refine hi.mono ?_
              rintro en w2 ⟨rfl, hB2⟩
              have HM2 := Lib.hid (HM.out.on hB2)
              clear hB2 hi
              go_wp2_with fail
              go_roundg 2
              case rel => exact ⟨1, rfl, rfl, by omega, by rw [HE.out]; exact Nat.zero_le _, by rw [HE.out]; exact HM2.out⟩
              case measure => have := HG.out; omega
          · -- the second
            have c1 := HM.out.1.cell1
            by_cases hb : wdAt s 0 declB = true
            · have e1 : declAt s 1 = 21 := by unfold declAt; rw [if_pos ⟨by omega, hb⟩]
              have e2 : declAt s 2 = 21 := by unfold declAt; rw [if_pos ⟨by omega, hb⟩]
              rw [e1] at HM hle c1
              have c1' : wr.cell? ⟨cb, 1, none⟩ = some (.int .i64 21) := c1
              have HE := Lib.hid e2
              clear hb e1 e2 c1
              go_wp2_with fail
              go_roundg 1
              case rel => exact ⟨2, rfl, rfl, by omega, by rw [HE.out]; exact hle, by rw [HE.out]; exact HM.out⟩
              case measure => have := HG.out; omega
            · have e1 : declAt s 1 = 0 := by unfold declAt; rw [if_neg (fun h => hb h.2), if_neg (by omega)]
              rw [e1] at HM hle c1
              have c1' : wr.cell? ⟨cb, 1, none⟩ = some (.int .i64 0) := c1
              have hi := is_any HM.out.1 (Nat.zero_le _) [60, 63, 120, 109, 108, 32, 118, 101, 114, 115, 105, 111, 110, 61, 34, 49, 46, 48, 34, 32, 101, 110, 99, 111, 100, 105, 110, 103, 61, 34, 85, 84, 70, 45, 56, 34, 63, 62] (by decide)
              have hw : wdAt s 0 (([60, 63, 120, 109, 108, 32, 118, 101, 114, 115, 105, 111, 110, 61, 34, 49, 46, 48, 34, 32, 101, 110, 99, 111, 100, 105, 110, 103, 61, 34, 85, 84, 70, 45, 56, 34, 63, 62] : List UInt8).map fun c => (c.toNat : Int)) = wdAt s 0 declN := rfl
              rw [hw] at hi
              clear hw c1
              cases hn : wdAt s 0 declN with
              | true =>
                rw [hn] at hi
                have e2 : declAt s 2 = 38 := by unfold declAt; rw [if_neg (fun h => hb h.2), if_pos ⟨by omega, hn⟩]
                have hin := wdAt_in (l := declN) hn (by decide) (Nat.zero_le _)
                have HE := Lib.hid e2
                clear hb e1 hn e2
                go_wp2_with fail
                refine hi.mono ?_
                rintro en w2 ⟨rfl, hB2⟩
                have hM2 := HM.out.on hB2
                have d1 := hM2.1.cell1
                have d0 := hM2.1.free 1
                have HM3 := Lib.hid (show ScnM cb s 0 0 (.slice none 0 0) (.slice none 0 0) (.slice none 0 0) (.int .i64 (-1)) w1 38 (w2.setCell ⟨cb, 1, none⟩ (.int .i64 38)) from hM2.set 38)
                clear hM2 hB2 hi
                go_wp2_with fail
                go_roundg 1
                case rel => exact ⟨2, rfl, rfl, by omega, by rw [HE.out]; simpa [declN] using hin, by rw [HE.out]; exact HM3.out⟩
                case measure => have := HG.out; omega
              | false =>
                rw [hn] at hi
                have e2 : declAt s 2 = 0 := by unfold declAt; rw [if_neg (fun h => hb h.2), if_neg (by rw [hn]; simp)]
                have HE := Lib.hid e2
                clear hb e1 hn e2
                go_wp2_with fail
                refine hi.mono ?_
                rintro en w2 ⟨rfl, hB2⟩
                have HM2 := Lib.hid (HM.out.on hB2)
                clear hB2 hi
                go_wp2_with fail
                go_roundg 1
                case rel => exact ⟨2, rfl, rfl, by omega, by rw [HE.out]; exact Nat.zero_le _, by rw [HE.out]; exact HM2.out⟩
                case measure => have := HG.out; omega
          · -- behind both
            have c1 := HM.out.1.cell1
            by_cases hb : wdAt s 0 declB = true
            · have e2 : declAt s 2 = 21 := by unfold declAt; rw [if_pos ⟨by omega, hb⟩]
              rw [e2] at HM hle c1
              have c1' : wr.cell? ⟨cb, 1, none⟩ = some (.int .i64 21) := c1
              have hd : declX s = .ok 21 () := by unfold declX; rw [if_pos hb]
              have HD := Lib.hid (show R = bodyX s 21 by rw [← HRR.out, hd])
              clear hb e2 c1 hd
              go_wp2_with fail
              go_meet
              case rel => exact .inl ⟨21, hle, HD.out, HM.out⟩
            · by_cases hn : wdAt s 0 declN = true
              · have e2 : declAt s 2 = 38 := by unfold declAt; rw [if_neg (fun h => hb h.2), if_pos ⟨by omega, hn⟩]
                rw [e2] at HM hle c1
                have c1' : wr.cell? ⟨cb, 1, none⟩ = some (.int .i64 38) := c1
                have hd : declX s = .ok 38 () := by unfold declX; rw [if_neg hb, if_pos hn]
                have HD := Lib.hid (show R = bodyX s 38 by rw [← HRR.out, hd])
                clear hb hn e2 c1 hd
                go_wp2_with fail
                go_meet
                case rel => exact .inl ⟨38, hle, HD.out, HM.out⟩
              · have e2 : declAt s 2 = 0 := by unfold declAt; rw [if_neg (fun h => hb h.2), if_neg (fun h => hn h.2)]
                rw [e2] at HM hle c1
                have c1' : wr.cell? ⟨cb, 1, none⟩ = some (.int .i64 0) := c1
                have hd : declX s = .bad 140 0 := by unfold declX; rw [if_neg hb, if_neg hn, if_pos HQ.out]
                have HD := Lib.hid (show R = .bad 140 0 by rw [← HRR.out, hd])
                have hwf := wrong_first HM.out.1 140 0
                clear hb hn e2 c1 hd
                go_wp2_with fail
                refine hwf.mono ?_
                rintro en w' ⟨rfl, rfl⟩
                clear hwf
                go_wp2_with fail
                go_meet
                case rel => exact .inr ⟨140, 0, 0, by decide, HD.out, Nat.zero_le _, HM.out.1.mark 140 0, (HM.out.2.setCell 2 (.int .i64 140)).setCell 3 (.int .i64 0)⟩
    case rest =>
    have HC := Lib.hid hcut
    clear hcut HM HRR
    go_upto_region 16 with fail
    go_cut [] (fun wx => (∃ p q, miscX s p = .ok q () ∧ q ≤ s.size ∧ R = bodyX s p ∧ ScnM cb s 0 0 (.slice none 0 0) (.slice none 0 0) (.slice none 0 0) (.int .i64 (-1)) w1 q wx) ∨ (∃ (e : Int) (a q : Nat), e ≠ 0 ∧ R = .bad e a ∧ q ≤ s.size ∧ ScnM cb s e (a : Int) (.slice none 0 0) (.slice none 0 0) (.slice none 0 0) (.int .i64 (-1)) w1 q wx))
    case first =>
      rcases HC.out with ⟨p, hp, hr, hM⟩ | ⟨e, a, q, he, hr, hq, hM⟩
      · have har := rAround_any hM.1 hp (by omega)
        have HR := Lib.hid hr; have HM := Lib.hid hM
        clear hr hM HC
        go_wp2_with fail
        refine har.mono ?_
        intro en w2 hE
        clear har
        unfold SEnd at hE
        cases hmx : miscX s p with
        | bad ee aa =>
          rw [hmx] at hE
          obtain ⟨hee, ⟨_, rfl⟩, q, hq, hM2⟩ := hE
          have HX := Lib.hid (show R = .bad ee aa by rw [HR.out]; exact bodyX_miscbad hmx); have HM2 := Lib.hid (HM.out.next hM2); have HE := Lib.hid hee
          clear hmx hM2 hee
          go_wp2_with fail
          go_meet
          case rel => exact .inr ⟨ee, aa, q, HE.out, HX.out, hq, HM2.out⟩
        | ok q u =>
          rw [hmx] at hE
          obtain ⟨rfl, hM2⟩ := hE
          have hin := miscX_in hmx hp
          have HX := Lib.hid hmx; have HM2 := Lib.hid (HM.out.next hM2)
          clear hmx hM2
          go_wp2_with fail
          go_meet
          case rel => exact .inl ⟨p, q, HX.out, hin.2, HR.out, HM2.out⟩
      · have har := rAround_bad hM.1 he
        have HR := Lib.hid hr; have HM := Lib.hid hM; have HE := Lib.hid he
        clear hr hM HC he
        go_wp2_with fail
        refine har.mono ?_
        rintro en w2 ⟨rfl, hB2⟩
        have HM2 := Lib.hid (HM.out.on hB2)
        clear hB2 har
        go_wp2_with fail
        go_meet
        case rel => exact .inr ⟨e, a, q, HE.out, HR.out, hq, HM2.out⟩
    case rest =>
    have HC2 := Lib.hid hcut
    clear hcut HC
    go_upto_region 17 with fail
    go_cut [54] (fun s54 wx => (∃ p q, miscX s p = .ok q () ∧ q ≤ s.size ∧ R = bodyX s p ∧ s54 = .bool true ∧ ScnM cb s 0 0 (.slice none 0 0) (.slice none 0 0) (.slice none 0 0) (.int .i64 (-1)) w1 q wx) ∨ (∃ (e : Int) (a q : Nat), e ≠ 0 ∧ R = .bad e a ∧ q ≤ s.size ∧ s54 = .bool false ∧ ScnM cb s e (a : Int) (.slice none 0 0) (.slice none 0 0) (.slice none 0 0) (.int .i64 (-1)) w1 q wx))
    case first =>
      rcases HC2.out with ⟨p, q, hm, hq, hr, hM⟩ | ⟨e, a, q, he, hr, hq, hM⟩
      · have hbd := bad_no hM.1
        have HR := Lib.hid hr; have HM := Lib.hid hM; have HX := Lib.hid hm
        clear hr hM HC2 hm
        go_wp2_with fail
        refine hbd.mono ?_
        rintro en w' ⟨rfl, rfl⟩
        go_wp2_with fail
        go_meet
        case rel => exact .inl ⟨p, q, HX.out, hq, HR.out, rfl, HM.out⟩
      · have hbd := bad_yes hM.1 he
        have HR := Lib.hid hr; have HM := Lib.hid hM; have HE := Lib.hid he
        clear hr hM HC2 he
        go_wp2_with fail
        refine hbd.mono ?_
        rintro en w' ⟨rfl, rfl⟩
        go_wp2_with fail
        go_meet
        case rel => exact .inr ⟨e, a, q, HE.out, HR.out, hq, rfl, HM.out⟩
    case rest =>
    have HC3 := Lib.hid hcut
    clear hcut HC2
    go_upto_if 54 with fail
    go_cut [] (fun wx => (∃ p q r nm sh l ov pv, miscX s p = .ok q () ∧ R = bodyX s p ∧ bt s q = 60 ∧ q < s.size ∧ begX s q 0 = .ok r (nm, sh, l) ∧ Scn cb s r 0 0 ov pv (.slice none 0 0) (.int .i64 (-1)) wx ∧ ScR w1.heap.size ov pv (.slice none 0 0) ([] ++ begT q nm sh l) (if sh = true then [] else [] ++ [nm]) [] wx ∧ KeepX w1.heap.size cb w1 wx) ∨ (∃ (e : Int) (a q : Nat), e ≠ 0 ∧ R = .bad e a ∧ ScnM cb s e (a : Int) (.slice none 0 0) (.slice none 0 0) (.slice none 0 0) (.int .i64 (-1)) w1 q wx))
    case first =>
      rcases HC3.out with ⟨p, q, hm, hq, hr, hs, hM⟩ | ⟨e, a, q, he, hr, hq, hs, hM⟩
      · subst hs
        have hi := is_any hM.1 hq [60] (by decide)
        have hw1' : wdAt s q (([60] : List UInt8).map fun c => (c.toNat : Int)) = (bt s q == 60) := by simp [wdAt]
        rw [hw1'] at hi
        have HR := Lib.hid hr; have HM := Lib.hid hM; have HX := Lib.hid hm
        clear hr hM HC3 hm hw1'
        by_cases h60 : bt s q = 60
        · rw [show (bt s q == 60) = true by simpa using h60] at hi
          have hqs : q < s.size := by
            by_cases hh : q < s.size
            · exact hh
            · rw [bt_end s (by omega)] at h60; omega
          have H60 := Lib.hid h60
          clear h60
          go_wp2_with fail
          refine hi.mono ?_
          rintro en w2 ⟨rfl, hB2⟩
          have hM2 := HM.out.on hB2
          have hR2 : ScR w1.heap.size (.slice none 0 0) (.slice none 0 0) (.slice none 0 0) [] [] [] w2 := ⟨⟨[], GRow.nil _ _ _, rfl, fun j h => absurd h (by simp)⟩, GRow.nil _ _ _, Br.nil _ _, hM2.2.size⟩
          have hbe := rBegin_any hM2.1 hR2 HU.out.szc hqs (by omega) (by simp) (by simp)
          have HM2 := Lib.hid hM2
          clear hB2 hi hM2 hR2
          go_wp2_with fail
          refine hbe.mono ?_
          intro en w3 hE
          clear hbe
          unfold RBeg at hE
          simp only [List.length_nil] at hE
          cases hbx : begX s q 0 with
          | bad ee aa =>
            rw [hbx] at hE
            obtain ⟨hee, rfl, q7, hq7, hM7⟩ := hE
            have HXX := Lib.hid (show R = .bad ee aa by rw [HR.out]; exact bodyX_begbad HX.out H60.out hbx); have HE := Lib.hid hee; have HM7 := Lib.hid (HM2.out.next hM7)
            clear hbx hM7 hee
            go_wp2_with fail
            go_meet
            case rel => exact .inr ⟨ee, aa, q7, HE.out, HXX.out, HM7.out⟩
          | ok r xx =>
            obtain ⟨nm, sh, l⟩ := xx
            rw [hbx] at hE
            obtain ⟨rfl, ov7, pv7, hs7, hR7, hK7⟩ := hE
            have HBX := Lib.hid hbx; have HS7 := Lib.hid hs7; have HR7 := Lib.hid hR7; have HK7 := Lib.hid (HM2.out.2.trans hK7)
            clear hbx hs7 hR7 hK7
            go_wp2_with fail
            go_meet
            case rel => exact .inl ⟨p, q, r, nm, sh, l, ov7, pv7, HX.out, HR.out, H60.out, hqs, HBX.out, HS7.out, HR7.out, HK7.out⟩
        · rw [show (bt s q == 60) = false by simpa using h60] at hi
          have HXX := Lib.hid (show R = .bad 140 q by rw [HR.out]; exact bodyX_nolt HX.out h60)
          clear h60
          go_wp2_with fail
          refine hi.mono ?_
          rintro en w2 ⟨rfl, hB2⟩
          have hM2 := HM.out.on hB2
          have d1 := hM2.1.cell1
          have hwf := wrong_first hM2.1 140 (q : Int)
          have HM2 := Lib.hid hM2
          clear hB2 hi hM2
          go_wp2_with fail
          refine hwf.mono ?_
          rintro en w' ⟨rfl, rfl⟩
          clear hwf
          go_wp2_with fail
          go_meet
          case rel => exact .inr ⟨140, q, q, by decide, HXX.out, HM2.out.1.mark 140 (q : Int), (HM2.out.2.setCell 2 (.int .i64 140)).setCell 3 (.int .i64 (q : Int))⟩
      · subst hs
        have HR := Lib.hid hr; have HM := Lib.hid hM; have HE := Lib.hid he
        clear hr hM HC3 he
        go_wp2_with fail
        go_meet
        case rel => exact .inr ⟨e, a, q, HE.out, HR.out, HM.out⟩
    case rest =>
    have HC4 := Lib.hid hcut
    clear hcut HC3
    go_upto_region 21 with fail
    go_cut [] (fun wx => (∃ r out ov pv tv c7, r ≤ s.size ∧ (R = match miscX s r with | .bad e a => .bad e a | .ok z _ => if z = s.size then .ok z out else .bad 140 z) ∧ Scn cb s r 0 0 ov pv tv c7 wx ∧ OutAt w1.heap.size wx ov out ∧ w1.heap.size ≤ wx.heap.size ∧ KeepX w1.heap.size cb w1 wx) ∨ (∃ (e : Int) (a q : Nat) (c4 c5 c6 c7 : Value), e ≠ 0 ∧ R = .bad e a ∧ Scn cb s q e (a : Int) c4 c5 c6 c7 wx ∧ KeepX w1.heap.size cb w1 wx))
    case first =>
      rcases HC4.out with ⟨p, q, r, nm, sh, l, ov, pv, hm, hr, h60, hqs, hbx, hs, hR, hK⟩ | ⟨e, a, q, he, hr, hM⟩
      · have hin := begX_in hbx hqs
        have hgo := hr.trans (bodyX_go hm h60 hbx)
        have hhe := rHeld_any hs hR HU.out.szc hin.2 hz (by split <;> simp) (by
          have := begT_len q nm sh l
          simp only [List.nil_append]
          omega)
        have HGO := Lib.hid hgo; have HK := Lib.hid hK
        clear hm hr h60 hbx hs hR hK hgo HC4
        go_wp2_with fail
        refine hhe.mono ?_
        intro en w3 hE
        clear hhe
        unfold RHeld at hE
        obtain ⟨H, hH⟩ : ∃ H, holdF s (s.size + 1 - r) r ([] ++ begT q nm sh l) (if sh = true then [] else [] ++ [nm]) ⟨#[]⟩ none = H := ⟨_, rfl⟩
        have hgo := HGO.out
        rw [hH] at hE hgo
        cases H with
        | bad ee aa =>
          obtain ⟨hee, rfl, ⟨q7, c4, c5, c6, c7, hs7⟩, hK7⟩ := hE
          have HX := Lib.hid (show R = .bad ee aa from hgo); have HE := Lib.hid hee; have HS7 := Lib.hid hs7; have HK7 := Lib.hid (HK.out.trans hK7)
          clear hgo hee hs7 hK7 hH HGO
          go_wp2_with fail
          go_meet
          case rel => exact .inr ⟨ee, aa, q7, _, _, _, _, HE.out, HX.out, HS7.out, HK7.out⟩
        | ok q7 out =>
          obtain ⟨rfl, hq7, hK7, ov7, pv7, tv7, c7, hs7, hO7, hl7⟩ := hE
          have HX := Lib.hid hgo; have HS7 := Lib.hid hs7; have HO7 := Lib.hid hO7; have HK7 := Lib.hid (HK.out.trans hK7)
          clear hgo hs7 hO7 hK7 hH HGO
          go_wp2_with fail
          go_meet
          case rel => exact .inl ⟨q7, out, ov7, pv7, tv7, c7, hq7, by rw [HX.out]; cases miscX s q7 <;> rfl, HS7.out, HO7.out, hl7, HK7.out⟩
      · have hhe := rHeld_bad hM.1 he
        have HR := Lib.hid hr; have HM := Lib.hid hM; have HE := Lib.hid he
        clear hr hM HC4 he
        go_wp2_with fail
        refine hhe.mono ?_
        rintro en w2 ⟨rfl, hs2, hK2⟩
        have HS2 := Lib.hid hs2; have HK2 := Lib.hid (HM.out.2.trans (hK2.mono HM.out.2.size))
        clear hs2 hK2 hhe
        go_wp2_with fail
        go_meet
        case rel => exact .inr ⟨e, a, q, _, _, _, _, HE.out, HR.out, HS2.out, HK2.out⟩
    case rest =>
    have HC5 := Lib.hid hcut
    clear hcut HC4
    go_upto_region 22 with fail
    go_cut [] (fun wx => (∃ z out ov pv tv c7, z ≤ s.size ∧ R = (if z = s.size then .ok z out else .bad 140 z) ∧ Scn cb s z 0 0 ov pv tv c7 wx ∧ OutAt w1.heap.size wx ov out ∧ KeepX w1.heap.size cb w1 wx) ∨ (∃ (e : Int) (a q : Nat) (c4 c5 c6 c7 : Value), e ≠ 0 ∧ R = .bad e a ∧ Scn cb s q e (a : Int) c4 c5 c6 c7 wx ∧ KeepX w1.heap.size cb w1 wx))
    case first =>
      rcases HC5.out with ⟨r, out, ov, pv, tv, c7, hr, hR, hs, hO, hl, hK⟩ | ⟨e, a, q, c4, c5, c6, c7, he, hr, hs, hK⟩
      · have har := rAround_any hs hr (by omega)
        have HR := Lib.hid hR; have HO := Lib.hid hO; have HK := Lib.hid hK
        clear hR hs hO hK HC5
        go_wp2_with fail
        refine har.mono ?_
        intro en w2 hE
        clear har
        unfold SEnd at hE
        have hx := HR.out
        cases hmx : miscX s r with
        | bad ee aa =>
          rw [hmx] at hE hx
          obtain ⟨hee, ⟨_, rfl⟩, q, hq, hM2⟩ := hE
          have HX := Lib.hid (show R = .bad ee aa from hx); have HS2 := Lib.hid hM2.1; have HK2 := Lib.hid (HK.out.trans (hM2.2.mono hl)); have HE := Lib.hid hee
          clear hmx hM2 hee hx
          go_wp2_with fail
          go_meet
          case rel => exact .inr ⟨ee, aa, q, _, _, _, _, HE.out, HX.out, HS2.out, HK2.out⟩
        | ok z u =>
          rw [hmx] at hE hx
          obtain ⟨rfl, hM2⟩ := hE
          have hin := miscX_in hmx hr
          have hO2 : OutAt w1.heap.size w2 ov out := by
            have hown := HO.out.own
            refine HO.out.later (fun g hg => ?_) (fun g c hg hc => hM2.2.block g (lt_some hc) (by have := HU.out.szc; omega))
            obtain ⟨h1, c, hc⟩ := hown g hg
            exact hM2.2.block g (lt_some hc) (by have := HU.out.szc; omega)
          have HX := Lib.hid (show R = (if z = s.size then .ok z out else .bad 140 z) from hx); have HS2 := Lib.hid hM2.1; have HO2 := Lib.hid hO2; have HK2 := Lib.hid (HK.out.trans (hM2.2.mono hl))
          clear hmx hM2 hO2 hx
          go_wp2_with fail
          go_meet
          case rel => exact .inl ⟨z, out, ov, pv, tv, c7, hin.2, HX.out, HS2.out, HO2.out, HK2.out⟩
      · have har := rAround_bad hs he
        have HR := Lib.hid hr; have HS := Lib.hid hs; have HE := Lib.hid he; have HK := Lib.hid hK
        clear hr hs HC5 he hK
        go_wp2_with fail
        refine har.mono ?_
        rintro en w2 ⟨rfl, hB2⟩
        have HS2 := Lib.hid (HS.out.on hB2); have HK2 := Lib.hid (HK.out.on hB2 (Nat.le_refl _))
        clear hB2 har
        go_wp2_with fail
        go_meet
        case rel => exact .inr ⟨e, a, q, _, _, _, _, HE.out, HR.out, HS2.out, HK2.out⟩
    case rest =>
    have HC6 := Lib.hid hcut
    clear hcut HC5
    go_upto_region 23 with fail
    go_cut [80] (fun s80 wx => (∃ z out ov pv tv c7, z ≤ s.size ∧ R = (if z = s.size then .ok z out else .bad 140 z) ∧ s80 = .bool (decide (z ≠ s.size)) ∧ Scn cb s z 0 0 ov pv tv c7 wx ∧ OutAt w1.heap.size wx ov out ∧ KeepX w1.heap.size cb w1 wx) ∨ (∃ (e : Int) (a q : Nat) (c4 c5 c6 c7 : Value), e ≠ 0 ∧ R = .bad e a ∧ s80 = .bool false ∧ Scn cb s q e (a : Int) c4 c5 c6 c7 wx ∧ KeepX w1.heap.size cb w1 wx))
    case first =>
      rcases HC6.out with ⟨z, out, ov, pv, tv, c7, hzz, hR, hs, hO, hK⟩ | ⟨e, a, q, c4, c5, c6, c7, he, hr, hs, hK⟩
      · have hbd := bad_no hs
        have c1 := hs.cell1
        have HR := Lib.hid hR; have HO := Lib.hid hO; have HK := Lib.hid hK; have HS := Lib.hid hs
        clear hR hs hO hK HC6
        by_cases hze : z = s.size
        · have hI2 : ¬ (z : Int) < (s.size : Int) := by omega
          have HD := Lib.hid (show decide (z ≠ s.size) = false by simpa using hze)
          clear hze
          go_wp2_with fail
          refine hbd.mono ?_
          rintro en w' ⟨rfl, rfl⟩
          go_wp2_with fail
          go_meet
          case rel => exact .inl ⟨z, out, ov, pv, tv, c7, hzz, HR.out, by rw [HD.out]; first | done | rfl | (congr 1; simp; omega), HS.out, HO.out, HK.out⟩
        · have hI2 : (z : Int) < (s.size : Int) := by omega
          have HD := Lib.hid (show decide (z ≠ s.size) = true by simpa using hze)
          clear hze
          go_wp2_with fail
          refine hbd.mono ?_
          rintro en w' ⟨rfl, rfl⟩
          go_wp2_with fail
          go_meet
          case rel => exact .inl ⟨z, out, ov, pv, tv, c7, hzz, HR.out, by rw [HD.out]; first | done | rfl | (congr 1; simp; omega), HS.out, HO.out, HK.out⟩
      · have hbd := bad_yes hs he
        have HR := Lib.hid hr; have HS := Lib.hid hs; have HE := Lib.hid he; have HK := Lib.hid hK
        clear hr hs HC6 he hK
        go_wp2_with fail
        refine hbd.mono ?_
        rintro en w' ⟨rfl, rfl⟩
        go_wp2_with fail
        go_meet
        case rel => exact .inr ⟨e, a, q, _, _, _, _, HE.out, HR.out, rfl, HS.out, HK.out⟩
    case rest =>
    have HC7 := Lib.hid hcut
    clear hcut HC6
    go_upto_if 80 with fail
    go_cut [] (fun wx => (∃ z out ov pv tv c7, R = .ok z out ∧ Scn cb s z 0 0 ov pv tv c7 wx ∧ OutAt w1.heap.size wx ov out ∧ KeepX w1.heap.size cb w1 wx) ∨ (∃ (e : Int) (a q : Nat) (c4 c5 c6 c7 : Value), e ≠ 0 ∧ R = .bad e a ∧ Scn cb s q e (a : Int) c4 c5 c6 c7 wx ∧ KeepX w1.heap.size cb w1 wx))
    case first =>
      rcases HC7.out with ⟨z, out, ov, pv, tv, c7, hzz, hR, hb, hs, hO, hK⟩ | ⟨e, a, q, c4, c5, c6, c7, he, hr, hb, hs, hK⟩
      · have HR := Lib.hid hR; have HO := Lib.hid hO; have HK := Lib.hid hK; have HS := Lib.hid hs
        clear hR hs hO hK HC7
        by_cases hze : z = s.size
        · rw [show decide (z ≠ s.size) = false by simpa using hze] at hb
          subst hb
          have HX := Lib.hid (HR.out.trans (if_pos hze))
          clear hze
          go_wp2_with fail
          go_meet
          case rel => exact .inl ⟨z, out, ov, pv, tv, c7, HX.out, HS.out, HO.out, HK.out⟩
        · rw [show decide (z ≠ s.size) = true by simpa using hze] at hb
          subst hb
          have HX := Lib.hid (HR.out.trans (if_neg hze))
          have hwf := wrong_first HS.out 140 (z : Int)
          have d1 := HS.out.cell1
          clear hze
          go_wp2_with fail
          refine hwf.mono ?_
          rintro en w' ⟨rfl, rfl⟩
          clear hwf
          go_wp2_with fail
          go_meet
          case rel => exact .inr ⟨140, z, z, _, _, _, _, by decide, HX.out, HS.out.mark 140 (z : Int), (HK.out.setCell 2 (.int .i64 140)).setCell 3 (.int .i64 (z : Int))⟩
      · subst hb
        have HR := Lib.hid hr; have HS := Lib.hid hs; have HE := Lib.hid he; have HK := Lib.hid hK
        clear hr hs HC7 he hK
        go_wp2_with fail
        go_meet
        case rel => exact .inr ⟨e, a, q, _, _, _, _, HE.out, HR.out, HS.out, HK.out⟩
    case rest =>
    rcases hcut with ⟨z, out, ov, pv, tv, c7, hR, hs, hO, hK⟩ | ⟨e, a, q, c4, c5, c6, c7, he, hR, hs, hK⟩
    · have hbd := bad_no hs
      have k4 := hs.cell4
      have hS9 := HU.out.spot hK
      have g0 := freeH hS9 0
      have g1 := freeH hS9 1
      have k0 := cellH hS9 0
      have k1 := cellH hS9 1
      obtain ⟨z0, z1, zB⟩ := HU.out.done0 hK (.int .i64 0) (.int .i64 0)
      have hO9 : OutAt w.heap.size ((wc.setCell ⟨sb, 0, none⟩ (.int .i64 0)).setCell ⟨sb, 1, none⟩ (.int .i64 0)) ov out := by
        have hsz := HU.out.sz
        refine (hO.later (fun g hg => ?_) (fun g c hg hc => ?_)).mono HU.out.bel.size
        · have := (hO.own g hg).1
          exact (Below.heap_setCell _ _ _ _ (by simp; omega)).trans (Below.heap_setCell _ _ _ _ (by simp; omega))
        · exact (Below.heap_setCell _ _ _ _ (by simp; omega)).trans (Below.heap_setCell _ _ _ _ (by simp; omega))
      have ZB := Lib.hid zB; have HX := Lib.hid (HX0.out.trans hR); have HO9 := Lib.hid hO9
      clear zB hS9 hO9 hR hs hO hK HC7
      go_wp2_with fail
      refine hbd.mono ?_
      rintro en w' ⟨rfl, rfl⟩
      go_wp2_with fail
      refine bodyPost_ret (v := .tuple #[ov, .agg #[.int .i64 0, .int .i64 0]]) (by simp [results, Tryz.results13, go_sem, z0, z1]) rfl ?_
      unfold TokEnd
      rw [HX.out]
      exact ⟨_, rfl, HO9.out, ZB.out⟩
    · have hbd := bad_yes hs he
      have hS9 := HU.out.spot hK
      have hSd : wc.drew.cell? ⟨cb, 2, none⟩ = some (Value.int .i64 e) ∧ wc.drew.cell? ⟨cb, 3, none⟩ = some (Value.int .i64 (a : Int)) := ⟨hs.cell2, hs.cell3⟩
      have g0 : wc.frozen? ⟨sb, 0, none⟩ = false := freeH hS9 0
      have g1 : wc.frozen? ⟨sb, 1, none⟩ = false := freeH hS9 1
      have k0 : wc.cell? ⟨sb, 0, none⟩ = some (.int .i64 0) := cellH hS9 0
      have k1 : wc.cell? ⟨sb, 1, none⟩ = some (.int .i64 0) := cellH hS9 1
      have hns : sb ≠ cb := HU.out.ne
      have hSe : ((wc.setCell ⟨sb, 0, none⟩ (.int .i64 e)).setCell ⟨sb, 1, none⟩ (.int .i64 (a : Int))).drew.cell? ⟨cb, 2, none⟩ = some (Value.int .i64 e) ∧ ((wc.setCell ⟨sb, 0, none⟩ (.int .i64 e)).setCell ⟨sb, 1, none⟩ (.int .i64 (a : Int))).drew.cell? ⟨cb, 3, none⟩ = some (Value.int .i64 (a : Int)) := two_other hns hs.cell2 hs.cell3
      have HZ := Lib.hid (HU.out.done hK (.int .i64 e) (.int .i64 (a : Int))); have HX := Lib.hid (HX0.out.trans hR)
      clear hs hK hS9 HC7 hR he
      go_wp2_with fail
      refine hbd.mono ?_
      rintro en w' ⟨rfl, rfl⟩
      clear hbd
      go_upto_region 26 with fail
      refine wp_region_held_drew (S := fun w' => w'.cell? ⟨cb, 2, none⟩ = some (Value.int .i64 e) ∧ w'.cell? ⟨cb, 3, none⟩ = some (Value.int .i64 (a : Int))) (by kernel_rfl) (hSd) (fun hHeld => ?_)
      refine tkH 0 hHeld ?_
      refine tkH 1 hHeld ?_
      refine tkH 2 hHeld ?_
      refine tkH 3 hHeld ?_
      refine tkH 4 hHeld ?_
      refine wpAnyH_ready (rs := [5]) (by kernel_rfl) (by simp) ?_
      refine AllReadyH.cons rfl (fun K hK => ?_) AllReadyH.nil
      go_simp
      refine hK.out _ _ (hSe) (fun hHeld => ?_)
      clear hK K
      refine wpAnyH_done (by kernel_rfl) ?_ _
      obtain ⟨z0, z1, zB⟩ := HZ.out
      go_wp2_with fail
      refine bodyPost_ret (v := .tuple #[.slice none 0 0, .agg #[.int .i64 e, .int .i64 (a : Int)]]) (by simp [results, Tryz.results13, go_sem, z0, z1]) rfl ?_
      unfold TokEnd
      rw [HX.out]
      exact ⟨rfl, zB⟩
theorem rTokens_any (s : ByteArray) (w : World) : Calls Tryz.prog 13 #[.string s] w fun en w' => TokEnd s w en w' := by
  by_cases h : s.size ≤ 262144
  · exact rTokens_short s w h
  · exact rTokens_long s w (by omega)
end
end Go.Proofs.YtnmpbphnfiiafaaGreatDoor
