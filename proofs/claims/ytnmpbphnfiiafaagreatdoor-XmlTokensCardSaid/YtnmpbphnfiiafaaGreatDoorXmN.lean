/-
  The reader of files: a name.
-/
import Derived.Test.YtnmpbphnfiiafaaGreatDoorXmT
namespace Go.Proofs.YtnmpbphnfiiafaaGreatDoor
open Go.RowKit Go.PlainAid

/-- What a step of the reader comes to: the walk has ended, or it has moved and hands back a value. -/
def StepEnd {α : Type} (x : Xr α) (val : α → Value) (rb : Nat) (s : ByteArray) (cs : Array Value) (w : World) (en : Ending) (w' : World) : Prop :=
  match x with
  | .bad e a => en = Died e a ∧ KeepX w.heap.size rb w w'
  | .ok q v => en = .returned (val v) ∧ Moved rb s cs w q w'
theorem nmF_ge (s : ByteArray) : ∀ f p, p ≤ nmF s f p ∧ nmF s f p ≤ p + f
  | 0, p => ⟨Nat.le_refl _, Nat.le_refl _⟩
  | f + 1, p => by
    unfold nmF
    split
    · have := nmF_ge s f (p + 1)
      omega
    · omega
theorem nmE_ge (s : ByteArray) (p : Nat) : p ≤ nmE s p := (nmF_ge s _ p).1
theorem nmE_le (s : ByteArray) (p : Nat) (h : p ≤ s.size) : nmE s p ≤ s.size := by
  have := (nmF_ge s (s.size - p) p).2
  unfold nmE
  omega
theorem bByte_in {s : ByteArray} {p : Nat} (h : bByte (bt s p) = true) : p < s.size := by
  by_cases hp : p < s.size
  · exact hp
  · rw [bt_end s (by omega)] at h
    exact absurd h (by decide)
theorem bStart_in {s : ByteArray} {p : Nat} (h : bStart (bt s p) = true) : p < s.size := by
  by_cases hp : p < s.size
  · exact hp
  · rw [bt_end s (by omega)] at h
    exact absurd h (by decide)
theorem nmF_step {s : ByteArray} {p : Nat} (h : bByte (bt s p) = true) : nmF s (s.size - p) p = nmF s (s.size - (p + 1)) (p + 1) := by
  have := bByte_in h
  rw [show s.size - p = (s.size - (p + 1)) + 1 by omega]
  conv => lhs; unfold nmF
  rw [if_pos h]
theorem nmF_stop {s : ByteArray} {p : Nat} (h : bByte (bt s p) = false) : nmF s (s.size - p) p = p := by
  cases hf : s.size - p with
  | zero => rfl
  | succ f =>
    unfold nmF
    rw [if_neg (by rw [h]; simp)]

set_option maxRecDepth 100000 in
set_option maxHeartbeats 4000000 in
theorem rdName_any {rb : Nat} {s : ByteArray} {at_ : Nat} {cs : Array Value} {w : World} (h : Rdr rb s at_ cs w) (ha : at_ ≤ s.size) (hz : s.size ≤ 1000000000000000) :
    Calls Tryz.prog 69 #[.pointer (some ⟨rb, 0, none⟩)] w fun en w' => StepEnd (nameX s at_) (fun b => .string b) rb s cs w en w' := by
  have c1 := h.cell1
  have hn := next_any h ha
  have b0 := bt_nonneg s at_
  have b1 : bt s at_ < 256 := by have := bt_le s at_; omega
  have hns := fun W => nameStart_any (bt s at_) b0 b1 W
  cases hst : bStart (bt s at_) with
  | false =>
    rw [hst] at hns
    have hx : nameX s at_ = .bad 140 at_ := by unfold nameX; rw [if_neg (by rw [hst]; simp)]
    rw [hx]
    have HH := Lib.hid h
    clear hst hx h b0 b1
    go_enter Tryz.func69, Tryz.ntmps69
    go_wp2_with fail
    refine hn.mono ?_
    rintro e w1 ⟨rfl, hB1⟩
    have hw := want_no (HH.out.on hB1)
    go_wp2_with fail
    refine (hns w1).mono ?_
    rintro e w' ⟨rfl, rfl⟩
    go_wp2_with fail
    refine hw.mono ?_
    rintro e w' ⟨rfl, rfl⟩
    go_wp2_with fail
    exact ⟨rfl, rfl, KeepX.of hB1 (Nat.le_refl _)⟩
  | true =>
    rw [hst] at hns
    have hin := bStart_in hst
    obtain ⟨q, hq⟩ : ∃ q, nmE s at_ = q := ⟨_, rfl⟩
    have hqs : q ≤ s.size := by rw [← hq]; exact nmE_le s at_ ha
    have hqa : at_ ≤ q := by rw [← hq]; exact nmE_ge s at_
    have hxx : nameX s at_ = if 64 < q - at_ then .bad 3 at_ else .ok q (s.extract at_ q) := by
      unfold nameX
      rw [if_pos hst, hq]
    have HX := Lib.hid hxx
    have HH := Lib.hid h; have HQ := Lib.hid hq
    clear hxx hst hq h b0 b1 hin
    go_enter Tryz.func69, Tryz.ntmps69
    go_wp2_with fail
    refine hn.mono ?_
    rintro e w1 ⟨rfl, hB1⟩
    have hwy := want_yes (.pointer (some ⟨rb, 0, none⟩)) w1
    have hM1 := HH.out.moved hB1
    go_wp2_with fail
    refine (hns w1).mono ?_
    rintro e w' ⟨rfl, rfl⟩
    go_wp2_with fail
    refine hwy.mono ?_
    rintro e w' ⟨rfl, rfl⟩
    have HM1 := Lib.hid hM1
    clear hn hns hwy hM1 c1 hB1
    go_wp2_with fail
    go_loopg [] (s.size + 1 - at_) (fun f wx => ∃ p : Nat, f + p = s.size + 1 ∧ p ≤ s.size ∧ nmE s at_ = nmF s (s.size - p) p ∧ Moved rb s cs w p wx)
    case atStart => exact ⟨at_, by omega, ha, rfl, HM1.out⟩
    case round =>
      obtain ⟨p, hg, hp, hb, hM⟩ := hrel
      have HG := Lib.hid hg; have HB := Lib.hid hb
      have hp0 : (0 : Int) ≤ p := by omega
      have hnx := next_any hM.1 hp
      have b0 := bt_nonneg s p
      have b1 : bt s p < 256 := by have := bt_le s p; omega
      have hnb := fun W => nameByte_any (bt s p) b0 b1 W
      have HM := Lib.hid hM
      cases hby : bByte (bt s p) with
      | true =>
        rw [hby] at hnb
        have hin := bByte_in hby
        have hst := hb.trans (nmF_step hby)
        have HST := Lib.hid hst; have HIN := Lib.hid hin
        have f1 : IntKind.i64.wrap ((p : Int) + 1) = ((p + 1 : Nat) : Int) := by rw [IntWalk.i64_in _ (by omega)]; omega
        clear hby hst hb hM b0 b1 hg
        go_wp2_with fail
        refine hnx.mono ?_
        rintro e w2 ⟨rfl, hB2⟩
        have hM2 := HM.out.on hB2
        have d1 := hM2.1.cell1
        have d0 := hM2.1.blk.free 1
        have HM3 := Lib.hid (hM2.set (p + 1))
        clear hM2 hB2 hnx
        go_wp2_with fail
        refine (hnb w2).mono ?_
        rintro e w' ⟨rfl, rfl⟩
        go_wp2_with fail
        go_roundg (s.size - p)
        case rel => exact ⟨p + 1, by have := HG.out; have := HIN.out; omega, HIN.out, HST.out, HM3.out⟩
        case measure => have := HG.out; have := HIN.out; omega
      | false =>
        rw [hby] at hnb
        have hpq : p = q := by rw [← HQ.out, hb, nmF_stop hby]
        subst hpq
        have f1 : IntKind.i64.wrap ((p : Int) - (at_ : Int)) = (p : Int) - (at_ : Int) := IntWalk.i64_in _ (by omega)
        clear hby hb hM b0 b1 hg
        go_wp2_with fail
        refine hnx.mono ?_
        rintro e w2 ⟨rfl, hB2⟩
        have hM2 := HM.out.on hB2
        have d1 := hM2.1.cell1
        have HM2 := Lib.hid hM2
        clear hB2 hnx
        go_wp2_with fail
        refine (hnb w2).mono ?_
        rintro e w' ⟨rfl, rfl⟩
        by_cases hlong : 64 < p - at_
        · have hI : (64 : Int) < (p : Int) - (at_ : Int) := by omega
          have hx : nameX s at_ = .bad 3 at_ := by rw [HX.out, if_pos hlong]
          have hf := fail_any (.pointer (some ⟨rb, 0, none⟩)) 3 (at_ : Int) w2
          have HXX := Lib.hid hx
          clear hx hlong hM2
          go_wp2_with fail
          refine hf.mono ?_
          rintro e w' ⟨rfl, rfl⟩
          go_wp2_with fail
          refine ⟨rfl, ?_⟩
          rw [HXX.out]
          exact ⟨rfl, HM2.out.2⟩
        · have hI : ¬ (64 : Int) < (p : Int) - (at_ : Int) := by omega
          have hx : nameX s at_ = .ok p (s.extract at_ p) := by rw [HX.out, if_neg hlong]
          have HXX := Lib.hid hx
          have d0 := hM2.1.cell0
          have ha0 : (0 : Int) ≤ at_ := by omega
          have hpa : (at_ : Int) ≤ p := by omega
          have hps : (p : Int) ≤ s.size := by omega
          clear hx hlong hM2
          go_upto_region 7 with fail
          go_quiet (fail)
          go_wp2_with fail
          go_ret
          rw [HXX.out]
          exact ⟨rfl, HM2.out.on (bdN0 (Below.refl _ _) nq)⟩
end Go.Proofs.YtnmpbphnfiiafaaGreatDoor
