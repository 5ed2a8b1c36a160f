/-
  The reference: texts XmQa, XmQb.
-/
import Derived.Test.YtnmpbphnfiiafaaGreatDoorXmW
import Derived.Test.YtnmpbphnfiiafaaGreatDoorXmX
namespace Go.Proofs.YtnmpbphnfiiafaaGreatDoor
section
open Go.RowKit Go.PlainAid

/-- A scan in memory: its text, its place, what is wrong, and four more. -/
def Scn (cb : Nat) (s : ByteArray) (p : Nat) (e a : Int) (c4 c5 c6 c7 : Value) (w : World) : Prop := w.heap[cb]? = some (.cells #[.string s, .int .i64 (p : Int), .int .i64 e, .int .i64 a, c4, c5, c6, c7] 62 (0, 0))
section
variable {cb : Nat} {s : ByteArray} {p : Nat} {e a : Int} {c4 c5 c6 c7 : Value} {w : World}
theorem Scn.on (h : Scn cb s p e a c4 c5 c6 c7 w) {w' : World} (hB : Below w.heap.size w w') : Scn cb s p e a c4 c5 c6 c7 w' := (hB.block cb (lt_some h)).trans h
theorem Scn.cell0 (h : Scn cb s p e a c4 c5 c6 c7 w) : w.cell? ⟨cb, 0, none⟩ = some (.string s) := cellH h 0
theorem Scn.cell1 (h : Scn cb s p e a c4 c5 c6 c7 w) : w.cell? ⟨cb, 1, none⟩ = some (.int .i64 (p : Int)) := cellH h 1
theorem Scn.cell2 (h : Scn cb s p e a c4 c5 c6 c7 w) : w.cell? ⟨cb, 2, none⟩ = some (.int .i64 e) := cellH h 2
theorem Scn.cell3 (h : Scn cb s p e a c4 c5 c6 c7 w) : w.cell? ⟨cb, 3, none⟩ = some (.int .i64 a) := cellH h 3
theorem Scn.set1 (h : Scn cb s p e a c4 c5 c6 c7 w) (q : Nat) : Scn cb s q e a c4 c5 c6 c7 (w.setCell ⟨cb, 1, none⟩ (.int .i64 (q : Int))) := setH h 1 _
theorem Scn.mark (h : Scn cb s p e a c4 c5 c6 c7 w) (e' a' : Int) : Scn cb s p e' a' c4 c5 c6 c7 ((w.setCell ⟨cb, 2, none⟩ (.int .i64 e')).setCell ⟨cb, 3, none⟩ (.int .i64 a')) := setH (setH h 2 _) 3 _
end
section
variable {cb : Nat} {s : ByteArray} {p : Nat} {e a : Int} {c4 c5 c6 c7 : Value} {w : World}
set_option maxRecDepth 100000 in
theorem bad_no (h : Scn cb s p 0 a c4 c5 c6 c7 w) : Calls Tryz.prog 35 #[.pointer (some ⟨cb, 0, none⟩)] w fun en w' => en = .returned (.bool false) ∧ w = w' := by
  have c2 := h.cell2
  go_enter Tryz.func35, Tryz.ntmps35
  go_wp2_with fail
  go_ret
  exact ⟨rfl, rfl⟩
set_option maxRecDepth 100000 in
theorem bad_yes (h : Scn cb s p e a c4 c5 c6 c7 w) (he : e ≠ 0) : Calls Tryz.prog 35 #[.pointer (some ⟨cb, 0, none⟩)] w fun en w' => en = .returned (.bool true) ∧ w = w' := by
  have c2 := h.cell2
  have he2 : (e == 0) = false := by simpa using he
  go_enter Tryz.func35, Tryz.ntmps35
  go_wp2_with fail
  go_ret
  exact ⟨by simp [he], rfl⟩
set_option maxRecDepth 100000 in
theorem wrong_first (h : Scn cb s p 0 a c4 c5 c6 c7 w) (e' a' : Int) : Calls Tryz.prog 33 #[.pointer (some ⟨cb, 0, none⟩), .int .i64 e', .int .i64 a'] w fun en w' => en = .returned (.tuple #[]) ∧ (w.setCell ⟨cb, 2, none⟩ (.int .i64 e')).setCell ⟨cb, 3, none⟩ (.int .i64 a') = w' := by
  have c2 := h.cell2
  have c3 := h.cell3
  have f2 := freeH h 2
  have f3 := freeH h 3
  go_enter Tryz.func33, Tryz.ntmps33
  go_wp2_with fail
  first | go_end0 | skip
  exact ⟨rfl, rfl⟩
set_option maxRecDepth 100000 in
theorem wrong_again (h : Scn cb s p e a c4 c5 c6 c7 w) (he : e ≠ 0) (e' a' : Int) : Calls Tryz.prog 33 #[.pointer (some ⟨cb, 0, none⟩), .int .i64 e', .int .i64 a'] w fun en w' => en = .returned (.tuple #[]) ∧ w = w' := by
  have c2 := h.cell2
  have he2 : (e == 0) = false := by simpa using he
  go_enter Tryz.func33, Tryz.ntmps33
  go_wp2_with fail
  first | go_end0 | skip
  exact ⟨rfl, rfl⟩
set_option maxRecDepth 100000 in
set_option maxHeartbeats 2000000 in
theorem is_any (h : Scn cb s p e a c4 c5 c6 c7 w) (hp : p ≤ s.size) (l : List UInt8) (hl : ∀ c ∈ l, c ≠ 0) : Calls Tryz.prog 32 #[.pointer (some ⟨cb, 0, none⟩), .string ⟨l.toArray⟩] w fun en w' => en = .returned (.bool (wdAt s p (l.map fun c => (c.toNat : Int)))) ∧ Below w.heap.size w w' := by
  have hpf := fun W => prefix_at s p l hl W
  have hSd : w.drew.cell? ⟨cb, 0, none⟩ = some (Value.string s) ∧ w.drew.cell? ⟨cb, 1, none⟩ = some (Value.int .i64 (p : Int)) ∧ Below w.heap.size w w.drew := ⟨h.cell0, h.cell1, (Below.refl _ _).drew⟩
  have hp0 : (0 : Int) ≤ p := by omega
  have hps : (p : Int) ≤ s.size := by omega
  generalize (⟨l.toArray⟩ : ByteArray) = L at *
  generalize wdAt s p (l.map fun c => (c.toNat : Int)) = r at *
  clear h hl
  go_enter Tryz.func32, Tryz.ntmps32
  go_upto_region 1 with fail
  refine wp_region_held_drew (S := fun w' => w'.cell? ⟨cb, 0, none⟩ = some (Value.string s) ∧ w'.cell? ⟨cb, 1, none⟩ = some (Value.int .i64 (p : Int)) ∧ Below w.heap.size w w') (by kernel_rfl) (hSd) (fun hHeld => ?_)
  refine tkH 0 hHeld ?_
  refine tkH 1 hHeld ?_
  refine tkH 2 hHeld ?_
  refine tkH 3 hHeld ?_
  refine tkH 4 hHeld ?_
  refine tkH 5 hHeld ?_
  refine tkH 6 hHeld ?_
  refine tkH 7 hHeld ?_
  refine tkH 8 hHeld ?_
  refine tkH 9 hHeld ?_
  refine wpAnyH_ready (rs := [10]) (by kernel_rfl) (by simp) ?_
  refine AllReadyH.cons rfl (fun K hK => ?_) AllReadyH.nil
  go_simp
  go_wp2_with (go_at_call 40; refine (hpf _).mono ?_; rintro e wy ⟨rfl, rfl⟩)
  refine hK.out _ _ (hSd) (fun hHeld => ?_)
  clear hK K
  refine tkH 11 hHeld ?_
  refine wpAnyH_done (by kernel_rfl) ?_ _
  go_wp2_with fail
  go_ret
  exact ⟨rfl, hSd.2.2⟩
end
/-- The scan has moved; else all below is as it was. -/
def ScnM (cb : Nat) (s : ByteArray) (e a : Int) (c4 c5 c6 c7 : Value) (w : World) (p : Nat) (w' : World) : Prop := Scn cb s p e a c4 c5 c6 c7 w' ∧ KeepX w.heap.size cb w w'
section
variable {cb : Nat} {s : ByteArray} {p q : Nat} {e a : Int} {c4 c5 c6 c7 : Value} {w w1 w2 : World}
theorem Scn.moved (h : Scn cb s p e a c4 c5 c6 c7 w) (hB : Below w.heap.size w w1) : ScnM cb s e a c4 c5 c6 c7 w p w1 := ⟨h.on hB, KeepX.of hB (Nat.le_refl _)⟩
theorem ScnM.on (h : ScnM cb s e a c4 c5 c6 c7 w p w1) (hB : Below w1.heap.size w1 w2) : ScnM cb s e a c4 c5 c6 c7 w p w2 := ⟨h.1.on hB, h.2.on hB (Nat.le_refl _)⟩
theorem ScnM.set (h : ScnM cb s e a c4 c5 c6 c7 w p w1) (q : Nat) : ScnM cb s e a c4 c5 c6 c7 w q (w1.setCell ⟨cb, 1, none⟩ (.int .i64 (q : Int))) := ⟨h.1.set1 q, h.2.setCell _ _⟩
theorem ScnM.trans (h : ScnM cb s e a c4 c5 c6 c7 w p w1) (k : ScnM cb s e a c4 c5 c6 c7 w1 q w2) : ScnM cb s e a c4 c5 c6 c7 w q w2 := ⟨k.1, h.2.trans (k.2.mono h.2.size)⟩
set_option maxRecDepth 100000 in
set_option maxHeartbeats 4000000 in
theorem rBlanks_any {at_ : Nat} (h : Scn cb s at_ e a c4 c5 c6 c7 w) (hp : at_ ≤ s.size) (hz : s.size ≤ 1000000000000000) :
    Calls Tryz.prog 59 #[.pointer (some ⟨cb, 0, none⟩)] w fun en w' => en = .returned (.bool (decide (at_ < blk s at_))) ∧ ScnM cb s e a c4 c5 c6 c7 w (blk s at_) w' := by
  have c1 := h.cell1
  have HM0 := Lib.hid (h.moved (Below.refl _ _))
  clear h
  go_enter Tryz.func59, Tryz.ntmps59
  go_wp2_with fail
  clear c1
  go_loopg [] (s.size + 1 - at_) (fun f wx => ∃ p : Nat, f + p = s.size + 1 ∧ p ≤ s.size ∧ blk s at_ = blkF s (s.size - p) p ∧ ScnM cb s e a c4 c5 c6 c7 w p wx)
  case atStart => exact ⟨at_, by omega, hp, rfl, HM0.out⟩
  case round =>
    obtain ⟨p, hg, hp, hb, hM⟩ := hrel
    have HG := Lib.hid hg; have HB := Lib.hid hb; have HM := Lib.hid hM
    have hp0 : (0 : Int) ≤ p := by omega
    have hps : (p : Int) ≤ s.size := by omega
    have hSd : wr.drew.cell? ⟨cb, 0, none⟩ = some (Value.string s) ∧ wr.drew.cell? ⟨cb, 1, none⟩ = some (Value.int .i64 (p : Int)) ∧ Below wr.heap.size wr wr.drew := ⟨hM.1.cell0, hM.1.cell1, (Below.refl _ _).drew⟩
    have hbt := get_bt s
    clear hg hb hM
    by_cases hlt : p < s.size
    · have hI : (p : Int) < s.size := by omega
      have hbk := fun W => rBlank_any (bt s p) W
      cases hbl : bBlank (bt s p) with
      | true =>
        rw [hbl] at hbk
        have hst : blkF s (s.size - p) p = blkF s (s.size - (p + 1)) (p + 1) := by
          rw [show s.size - p = (s.size - (p + 1)) + 1 by omega]
          conv => lhs; unfold blkF
          rw [if_pos hbl]
        have HST := Lib.hid (HB.out.trans hst); have HLT := Lib.hid hlt
        clear hst hbl hlt
        go_upto_region 2 with fail
        refine wp_region_held_drew (S := fun w' => w'.cell? ⟨cb, 0, none⟩ = some (Value.string s) ∧ w'.cell? ⟨cb, 1, none⟩ = some (Value.int .i64 (p : Int)) ∧ Below wr.heap.size wr w') (by kernel_rfl) (hSd) (fun hHeld => ?_)
        refine tkH 0 hHeld ?_
        refine tkH 1 hHeld ?_
        refine tkH 2 hHeld ?_
        refine tkH 3 hHeld ?_
        refine tkH 4 hHeld ?_
        refine tkH 5 hHeld ?_
        refine tkH 6 hHeld ?_
        refine tkH 7 hHeld ?_
        refine tkH 8 hHeld ?_
        refine tkH 9 hHeld ?_
        refine tkH 10 hHeld ?_
        refine tkH 11 hHeld ?_
        refine tkH 12 hHeld ?_
        refine tkH 13 hHeld ?_
        refine tkH 14 hHeld ?_
        refine tkH 15 hHeld ?_
        refine tkH 16 hHeld ?_
        refine tkH 17 hHeld ?_
        refine tkH 18 hHeld ?_
        refine tkH 19 hHeld ?_
        refine wpAnyH_ready (rs := [20]) (by kernel_rfl) (by simp) ?_
        refine AllReadyH.cons rfl (fun K hK => ?_) AllReadyH.nil
        go_simp
        go_wp2_with (go_at_call 84; refine (hbk _).mono ?_; rintro e wy ⟨rfl, rfl⟩)
        refine hK.out _ _ (hSd) (fun hHeld => ?_)
        clear hK K
        refine tkH 21 hHeld ?_
        refine wpAnyH_done (by kernel_rfl) ?_ _
        have hM2 := HM.out.on hSd.2.2
        have d1 := hM2.1.cell1
        have d0 := freeH hM2.1 1
        have f1 : IntKind.i64.wrap ((p : Int) + 1) = ((p + 1 : Nat) : Int) := by rw [IntWalk.i64_in _ (by omega)]; omega
        have HM3 := Lib.hid (hM2.set (p + 1))
        clear hM2 hHeld hSd hbk
        go_wp2_with fail
        go_roundg (s.size - p)
        case rel => exact ⟨p + 1, by have := HG.out; have := HLT.out; omega, HLT.out, HST.out, HM3.out⟩
        case measure => have := HG.out; have := HLT.out; omega
      | false =>
        rw [hbl] at hbk
        have hst : blkF s (s.size - p) p = p := by
          rw [show s.size - p = (s.size - (p + 1)) + 1 by omega]
          unfold blkF
          rw [if_neg (by rw [hbl]; simp)]
        have HST := Lib.hid (HB.out.trans hst)
        clear hst hbl hlt
        go_upto_region 2 with fail
        refine wp_region_held_drew (S := fun w' => w'.cell? ⟨cb, 0, none⟩ = some (Value.string s) ∧ w'.cell? ⟨cb, 1, none⟩ = some (Value.int .i64 (p : Int)) ∧ Below wr.heap.size wr w') (by kernel_rfl) (hSd) (fun hHeld => ?_)
        refine tkH 0 hHeld ?_
        refine tkH 1 hHeld ?_
        refine tkH 2 hHeld ?_
        refine tkH 3 hHeld ?_
        refine tkH 4 hHeld ?_
        refine tkH 5 hHeld ?_
        refine tkH 6 hHeld ?_
        refine tkH 7 hHeld ?_
        refine tkH 8 hHeld ?_
        refine tkH 9 hHeld ?_
        refine tkH 10 hHeld ?_
        refine tkH 11 hHeld ?_
        refine tkH 12 hHeld ?_
        refine tkH 13 hHeld ?_
        refine tkH 14 hHeld ?_
        refine tkH 15 hHeld ?_
        refine tkH 16 hHeld ?_
        refine tkH 17 hHeld ?_
        refine tkH 18 hHeld ?_
        refine tkH 19 hHeld ?_
        refine wpAnyH_ready (rs := [20]) (by kernel_rfl) (by simp) ?_
        refine AllReadyH.cons rfl (fun K hK => ?_) AllReadyH.nil
        go_simp
        go_wp2_with (go_at_call 84; refine (hbk _).mono ?_; rintro e wy ⟨rfl, rfl⟩)
        refine hK.out _ _ (hSd) (fun hHeld => ?_)
        clear hK K
        refine tkH 21 hHeld ?_
        refine wpAnyH_done (by kernel_rfl) ?_ _
        have hM2 := HM.out.on hSd.2.2
        have d1 := hM2.1.cell1
        have HM2 := Lib.hid hM2
        clear hM2 hHeld hSd hbk
        go_wp2_with fail
        go_ret
        rw [HST.out]
        refine ⟨ret_bool ?_, HM2.out⟩
        simp
    · have hI : ¬ (p : Int) < s.size := by omega
      have hId : decide ((p : Int) < s.size) = false := by simpa using hI
      have hst : blkF s (s.size - p) p = p := by
        rw [show s.size - p = 0 by omega]
        rfl
      have HST := Lib.hid (HB.out.trans hst)
      clear hst hlt
      go_upto_region 2 with fail
      refine wp_region_held_drew (S := fun w' => w'.cell? ⟨cb, 0, none⟩ = some (Value.string s) ∧ w'.cell? ⟨cb, 1, none⟩ = some (Value.int .i64 (p : Int)) ∧ Below wr.heap.size wr w') (by kernel_rfl) (hSd) (fun hHeld => ?_)
      refine tkH 0 hHeld ?_
      refine tkH 1 hHeld ?_
      refine tkH 2 hHeld ?_
      refine tkH 3 hHeld ?_
      refine tkH 4 hHeld ?_
      refine tkH 5 hHeld ?_
      refine tkH 6 hHeld ?_
      refine tkH 7 hHeld ?_
      refine tkH 8 hHeld ?_
      refine tkH 9 hHeld ?_
      refine tkH 10 hHeld ?_
      refine skH 11 hHeld ?_
      refine skH 12 hHeld ?_
      refine skH 13 hHeld ?_
      refine skH 14 hHeld ?_
      refine skH 15 hHeld ?_
      refine skH 16 hHeld ?_
      refine skH 17 hHeld ?_
      refine skH 18 hHeld ?_
      refine skH 19 hHeld ?_
      refine skH 20 hHeld ?_
      refine tkH 21 hHeld ?_
      refine wpAnyH_done (by kernel_rfl) ?_ _
      have hM2 := HM.out.on hSd.2.2
      have d1 := hM2.1.cell1
      have HM2 := Lib.hid hM2
      clear hM2 hHeld hSd
      go_wp2_with fail
      go_ret
      rw [HST.out]
      refine ⟨ret_bool ?_, HM2.out⟩
      simp
end
end

section
open Go.RowKit Go.PlainAid

/-- What a step of the scan comes to. -/
def SEnd {α : Type} (x : Xr α) (val : α → Value) (cb : Nat) (s : ByteArray) (c4 c5 c6 c7 : Value) (w : World) (en : Ending) (w' : World) : Prop :=
  match x with
  | .bad e a => e ≠ 0 ∧ (∃ v, en = .returned (val v)) ∧ ∃ q, q ≤ s.size ∧ ScnM cb s e (a : Int) c4 c5 c6 c7 w q w'
  | .ok q v => en = .returned (val v) ∧ ScnM cb s 0 0 c4 c5 c6 c7 w q w'
section
variable {cb : Nat} {s : ByteArray} {at_ : Nat} {c4 c5 c6 c7 : Value} {w : World}
set_option maxRecDepth 100000 in
set_option maxHeartbeats 8000000 in
theorem rName1_any (h : Scn cb s at_ 0 0 c4 c5 c6 c7 w) (ha : at_ ≤ s.size) (hz : s.size ≤ 1000000000000000) :
    Calls Tryz.prog 61 #[.pointer (some ⟨cb, 0, none⟩)] w fun en w' => SEnd (nameX s at_) (fun b => .string b) cb s c4 c5 c6 c7 w en w' := by
  have c0 := h.cell0
  have c1 := h.cell1
  have hbt := get_bt s
  have ha0 : (0 : Int) ≤ at_ := by omega
  have hns := fun W => rStart_any (bt s at_) W
  have HM0 := Lib.hid (h.moved (Below.refl _ _))
  cases hst : bStart (bt s at_) with
  | false =>
    rw [hst] at hns
    have hx : nameX s at_ = .bad 140 at_ := by unfold nameX; rw [if_neg (by rw [hst]; simp)]
    have hwf := wrong_first h 140 (at_ : Int)
    have hS3 := h.mark 140 (at_ : Int)
    have hK3 := ((KeepX.refl w.heap.size cb w).setCell 2 (.int .i64 140)).setCell 3 (.int .i64 (at_ : Int))
    have HX := Lib.hid hx; have HS3 := Lib.hid hS3; have HK3 := Lib.hid hK3
    clear hst hx hS3 hK3 h
    by_cases hend : at_ < s.size
    · have hI : (at_ : Int) < s.size := by omega
      have hE : ((at_ : Int) == (s.size : Int)) = false := by simp; omega
      have hE2 : ¬ (at_ : Int) = (s.size : Int) := by omega
      clear hend
      go_enter Tryz.func61, Tryz.ntmps61
      go_wp2_with fail
      refine (hns _).mono ?_
      rintro e w' ⟨rfl, rfl⟩
      go_wp2_with fail
      refine hwf.mono ?_
      rintro e w' ⟨rfl, rfl⟩
      go_wp2_with fail
      go_ret
      rw [HX.out]
      refine ⟨by decide, ⟨_, rfl⟩, ?_⟩
      exact ⟨_, ha, HS3.out, HK3.out⟩
    · obtain rfl : at_ = s.size := by omega
      clear hend
      go_enter Tryz.func61, Tryz.ntmps61
      go_wp2_with fail
      refine hwf.mono ?_
      rintro e w' ⟨rfl, rfl⟩
      go_wp2_with fail
      go_ret
      rw [HX.out]
      refine ⟨by decide, ⟨_, rfl⟩, ?_⟩
      exact ⟨_, ha, HS3.out, HK3.out⟩
  | true =>
    rw [hst] at hns
    have hin := bStart_in hst
    obtain ⟨q, hq⟩ : ∃ q, nmE s at_ = q := ⟨_, rfl⟩
    have hqa : at_ ≤ q := by rw [← hq]; exact nmE_ge s at_
    have hxx : nameX s at_ = if 64 < q - at_ then .bad 3 at_ else .ok q (s.extract at_ q) := by
      unfold nameX
      rw [if_pos hst, hq]
    have HX := Lib.hid hxx; have HQ := Lib.hid hq
    have hI : (at_ : Int) < s.size := by omega
    have hE : ((at_ : Int) == (s.size : Int)) = false := by simp; omega
    have hE2 : ¬ (at_ : Int) = (s.size : Int) := by omega
    clear hxx hst hq h hin
    go_enter Tryz.func61, Tryz.ntmps61
    go_wp2_with fail
    refine (hns _).mono ?_
    rintro e w' ⟨rfl, rfl⟩
    go_wp2_with fail
    clear hns c0 c1 hE hE2 hI
    go_loopg [] (s.size + 1 - at_) (fun f wx => ∃ p : Nat, f + p = s.size + 1 ∧ at_ ≤ p ∧ p ≤ s.size ∧ nmE s at_ = nmF s (s.size - p) p ∧ ScnM cb s 0 0 c4 c5 c6 c7 w p wx)
    case atStart => exact ⟨at_, by omega, Nat.le_refl _, ha, rfl, HM0.out⟩
    case round =>
      obtain ⟨p, hg, hap, hp, hb, hM⟩ := hrel
      have HG := Lib.hid (And.intro hg hap); have HB := Lib.hid hb; have HM := Lib.hid hM
      have hp0 : (0 : Int) ≤ p := by omega
      have hps : (p : Int) ≤ s.size := by omega
      have hpa : (at_ : Int) ≤ p := by omega
      have hSd : wr.drew.cell? ⟨cb, 0, none⟩ = some (Value.string s) ∧ wr.drew.cell? ⟨cb, 1, none⟩ = some (Value.int .i64 (p : Int)) ∧ Below wr.heap.size wr wr.drew := ⟨hM.1.cell0, hM.1.cell1, (Below.refl _ _).drew⟩
      clear hg hb hM hap
      by_cases hlt : p < s.size
      · have hI : (p : Int) < s.size := by omega
        have hbk := fun W => rByte_any (bt s p) W
        cases hby : bByte (bt s p) with
        | true =>
          rw [hby] at hbk
          have HST := Lib.hid (HB.out.trans (nmF_step hby)); have HLT := Lib.hid hlt
          clear hby hlt
          go_upto_region 5 with fail
          refine wp_region_held_drew (S := fun w' => w'.cell? ⟨cb, 0, none⟩ = some (Value.string s) ∧ w'.cell? ⟨cb, 1, none⟩ = some (Value.int .i64 (p : Int)) ∧ Below wr.heap.size wr w') (by kernel_rfl) (hSd) (fun hHeld => ?_)
          refine tkH 0 hHeld ?_
          refine tkH 1 hHeld ?_
          refine tkH 2 hHeld ?_
          refine tkH 3 hHeld ?_
          refine tkH 4 hHeld ?_
          refine tkH 5 hHeld ?_
          refine tkH 6 hHeld ?_
          refine tkH 7 hHeld ?_
          refine tkH 8 hHeld ?_
          refine tkH 9 hHeld ?_
          refine tkH 10 hHeld ?_
          refine tkH 11 hHeld ?_
          refine tkH 12 hHeld ?_
          refine tkH 13 hHeld ?_
          refine tkH 14 hHeld ?_
          refine tkH 15 hHeld ?_
          refine tkH 16 hHeld ?_
          refine tkH 17 hHeld ?_
          refine tkH 18 hHeld ?_
          refine tkH 19 hHeld ?_
          refine wpAnyH_ready (rs := [20]) (by kernel_rfl) (by simp) ?_
          refine AllReadyH.cons rfl (fun K hK => ?_) AllReadyH.nil
          go_simp
          go_wp2_with (go_at_call 86; refine (hbk _).mono ?_; rintro e wy ⟨rfl, rfl⟩)
          refine hK.out _ _ (hSd) (fun hHeld => ?_)
          clear hK K
          refine tkH 21 hHeld ?_
          refine wpAnyH_done (by kernel_rfl) ?_ _
          have hM2 := HM.out.on hSd.2.2
          have d1 := hM2.1.cell1
          have d0 := freeH hM2.1 1
          have f1 : IntKind.i64.wrap ((p : Int) + 1) = ((p + 1 : Nat) : Int) := by rw [IntWalk.i64_in _ (by omega)]; omega
          have HM3 := Lib.hid (hM2.set (p + 1))
          clear hM2 hHeld hSd hbk
          go_wp2_with fail
          go_roundg (s.size - p)
          case rel => exact ⟨p + 1, by have := HG.out; have := HLT.out; omega, by have := HG.out; omega, HLT.out, HST.out, HM3.out⟩
          case measure => have := HG.out; have := HLT.out; omega
        | false =>
          rw [hby] at hbk
          clear hlt
          go_upto_region 5 with fail
          refine wp_region_held_drew (S := fun w' => w'.cell? ⟨cb, 0, none⟩ = some (Value.string s) ∧ w'.cell? ⟨cb, 1, none⟩ = some (Value.int .i64 (p : Int)) ∧ Below wr.heap.size wr w') (by kernel_rfl) (hSd) (fun hHeld => ?_)
          refine tkH 0 hHeld ?_
          refine tkH 1 hHeld ?_
          refine tkH 2 hHeld ?_
          refine tkH 3 hHeld ?_
          refine tkH 4 hHeld ?_
          refine tkH 5 hHeld ?_
          refine tkH 6 hHeld ?_
          refine tkH 7 hHeld ?_
          refine tkH 8 hHeld ?_
          refine tkH 9 hHeld ?_
          refine tkH 10 hHeld ?_
          refine tkH 11 hHeld ?_
          refine tkH 12 hHeld ?_
          refine tkH 13 hHeld ?_
          refine tkH 14 hHeld ?_
          refine tkH 15 hHeld ?_
          refine tkH 16 hHeld ?_
          refine tkH 17 hHeld ?_
          refine tkH 18 hHeld ?_
          refine tkH 19 hHeld ?_
          refine wpAnyH_ready (rs := [20]) (by kernel_rfl) (by simp) ?_
          refine AllReadyH.cons rfl (fun K hK => ?_) AllReadyH.nil
          go_simp
          go_wp2_with (go_at_call 86; refine (hbk _).mono ?_; rintro e wy ⟨rfl, rfl⟩)
          refine hK.out _ _ (hSd) (fun hHeld => ?_)
          clear hK K
          refine tkH 21 hHeld ?_
          refine wpAnyH_done (by kernel_rfl) ?_ _
          have hM2 := HM.out.on hSd.2.2
          have d1 := hM2.1.cell1
          have HM2 := Lib.hid hM2
          clear hHeld hSd
          have hpq : p = q := by rw [← HQ.out, HB.out, nmF_stop hby]
          have HPQ := Lib.hid hpq
          have f1 : IntKind.i64.wrap ((p : Int) - (at_ : Int)) = (p : Int) - (at_ : Int) := IntWalk.i64_in _ (by omega)
          clear hby hpq
          by_cases hlong : 64 < p - at_
          · have hI : (64 : Int) < (p : Int) - (at_ : Int) := by omega
            have hx : nameX s at_ = .bad 3 at_ := by rw [HX.out, ← HPQ.out, if_pos hlong]
            have hwf := wrong_first hM2.1 3 (at_ : Int)
            have HXX := Lib.hid hx
            clear hx hlong hM2
            go_wp2_with fail
            refine hwf.mono ?_
            rintro e w' ⟨rfl, hw'⟩
            have hS3 := HM2.out.1.mark 3 (at_ : Int)
            have hK3 := (HM2.out.2.setCell 2 (.int .i64 3)).setCell 3 (.int .i64 (at_ : Int))
            rw [hw'] at hS3 hK3
            have d0 := hS3.cell0
            have d1 := hS3.cell1
            have HS3 := Lib.hid hS3; have HK3 := Lib.hid hK3
            clear hS3 hK3 hw' hwf
            go_upto_region 9 with fail
            go_quiet (fail)
            go_wp2_with fail
            go_ret
            rw [HXX.out]
            refine ⟨by decide, ⟨_, rfl⟩, ?_⟩
            exact ⟨p, hp, HS3.out.on (bdN0 (Below.refl _ _) nq), HK3.out.on (bdN0 (Below.refl _ _) nq) (Nat.le_refl _)⟩
          · have hI : ¬ (64 : Int) < (p : Int) - (at_ : Int) := by omega
            have hx : nameX s at_ = .ok p (s.extract at_ p) := by rw [HX.out, ← HPQ.out, if_neg hlong]
            have HXX := Lib.hid hx
            have d0 := HM.out.1.cell0
            have e1 := HM.out.1.cell1
            clear hx hlong hM2
            go_upto_region 9 with fail
            go_quiet (fail)
            go_wp2_with fail
            go_ret
            rw [HXX.out]
            exact ⟨rfl, HM.out.on (bdN0 (Below.refl _ _) _)⟩
      · have hI : ¬ (p : Int) < s.size := by omega
        have hId : decide ((p : Int) < s.size) = false := by simpa using hI
        have hby : bByte (bt s p) = false := by rw [bt_end s (by omega)]; decide
        clear hlt
        go_upto_region 5 with fail
        refine wp_region_held_drew (S := fun w' => w'.cell? ⟨cb, 0, none⟩ = some (Value.string s) ∧ w'.cell? ⟨cb, 1, none⟩ = some (Value.int .i64 (p : Int)) ∧ Below wr.heap.size wr w') (by kernel_rfl) (hSd) (fun hHeld => ?_)
        refine tkH 0 hHeld ?_
        refine tkH 1 hHeld ?_
        refine tkH 2 hHeld ?_
        refine tkH 3 hHeld ?_
        refine tkH 4 hHeld ?_
        refine tkH 5 hHeld ?_
        refine tkH 6 hHeld ?_
        refine tkH 7 hHeld ?_
        refine tkH 8 hHeld ?_
        refine tkH 9 hHeld ?_
        refine tkH 10 hHeld ?_
        refine skH 11 hHeld ?_
        refine skH 12 hHeld ?_
        refine skH 13 hHeld ?_
        refine skH 14 hHeld ?_
        refine skH 15 hHeld ?_
        refine skH 16 hHeld ?_
        refine skH 17 hHeld ?_
        refine skH 18 hHeld ?_
        refine skH 19 hHeld ?_
        refine skH 20 hHeld ?_
        refine tkH 21 hHeld ?_
        refine wpAnyH_done (by kernel_rfl) ?_ _
        have hM2 := HM.out.on hSd.2.2
        have d1 := hM2.1.cell1
        have HM2 := Lib.hid hM2
        clear hHeld hSd
        have hpq : p = q := by rw [← HQ.out, HB.out, nmF_stop hby]
        have HPQ := Lib.hid hpq
        have f1 : IntKind.i64.wrap ((p : Int) - (at_ : Int)) = (p : Int) - (at_ : Int) := IntWalk.i64_in _ (by omega)
        clear hby hpq
        by_cases hlong : 64 < p - at_
        · have hI : (64 : Int) < (p : Int) - (at_ : Int) := by omega
          have hx : nameX s at_ = .bad 3 at_ := by rw [HX.out, ← HPQ.out, if_pos hlong]
          have hwf := wrong_first hM2.1 3 (at_ : Int)
          have HXX := Lib.hid hx
          clear hx hlong hM2
          go_wp2_with fail
          refine hwf.mono ?_
          rintro e w' ⟨rfl, hw'⟩
          have hS3 := HM2.out.1.mark 3 (at_ : Int)
          have hK3 := (HM2.out.2.setCell 2 (.int .i64 3)).setCell 3 (.int .i64 (at_ : Int))
          rw [hw'] at hS3 hK3
          have d0 := hS3.cell0
          have d1 := hS3.cell1
          have HS3 := Lib.hid hS3; have HK3 := Lib.hid hK3
          clear hS3 hK3 hw' hwf
          go_upto_region 9 with fail
          go_quiet (fail)
          go_wp2_with fail
          go_ret
          rw [HXX.out]
          refine ⟨by decide, ⟨_, rfl⟩, ?_⟩
          exact ⟨p, hp, HS3.out.on (bdN0 (Below.refl _ _) nq), HK3.out.on (bdN0 (Below.refl _ _) nq) (Nat.le_refl _)⟩
        · have hI : ¬ (64 : Int) < (p : Int) - (at_ : Int) := by omega
          have hx : nameX s at_ = .ok p (s.extract at_ p) := by rw [HX.out, ← HPQ.out, if_neg hlong]
          have HXX := Lib.hid hx
          have d0 := HM.out.1.cell0
          have e1 := HM.out.1.cell1
          clear hx hlong hM2
          go_upto_region 9 with fail
          go_quiet (fail)
          go_wp2_with fail
          go_ret
          rw [HXX.out]
          exact ⟨rfl, HM.out.on (bdN0 (Below.refl _ _) _)⟩
end
end
end Go.Proofs.YtnmpbphnfiiafaaGreatDoor
