/-
  The document's answer: a quoted value.
-/
import Derived.Test.YtnmpbphnfiiafaaGreatDoorXmZf
namespace Go.Proofs.YtnmpbphnfiiafaaGreatDoor
open Go.RowKit Go.PlainAid

theorem valX_quote {s : ByteArray} {p : Nat} {q : Int} (hq : q = 34 ∨ q = 39) (h : bt s p = q) : valX s p = match valF s q (s.size + 1 - p) (p + 1) ⟨#[]⟩ with
    | .bad e a => .bad e a
    | .ok p' v => if 4096 < v.size then .bad 3 p else .ok p' v := by
  unfold valX
  rw [if_pos (by rw [h]; exact hq), h]
  cases valF s q (s.size + 1 - p) (p + 1) ⟨#[]⟩ <;> rfl
theorem valX_no {s : ByteArray} {p : Nat} (h : ¬ (bt s p = 34 ∨ bt s p = 39)) : valX s p = .bad 140 p := by
  unfold valX
  rw [if_neg h]
section
set_option maxRecDepth 100000
set_option maxHeartbeats 8000000
variable {cb : Nat} {s : ByteArray} {at_ : Nat} {c4 c5 c6 c7 : Value} {w : World}
theorem rValue_no (h : Scn cb s at_ 0 0 c4 c5 c6 c7 w) (ha : at_ ≤ s.size) (hn : ¬ (bt s at_ = 34 ∨ bt s at_ = 39)) :
    Calls Tryz.prog 87 #[.pointer (some ⟨cb, 0, none⟩)] w fun en w' => SEnd (valX s at_) (fun b => .string b) cb s c4 c5 c6 c7 w en w' := by
  have hbt := get_bt s
  have HX := Lib.hid (valX_no hn)
  have hMd := h.moved (Below.refl w.heap.size w).drew
  have HM := Lib.hid hMd
  have ha0 : (0 : Int) ≤ at_ := by omega
  have hm1 : (bt s at_ != 34) = true := by simp; omega
  have hm2 : (bt s at_ != 39) = true := by simp; omega
  have hwf := wrong_first hMd.1 140 (at_ : Int)
  have HM5 := Lib.hid (show ScnM cb s 140 (at_ : Int) c4 c5 c6 c7 w at_ ((w.drew.setCell ⟨cb, 2, none⟩ (.int .i64 140)).setCell ⟨cb, 3, none⟩ (.int .i64 (at_ : Int))) from ⟨hMd.1.mark 140 (at_ : Int), (hMd.2.setCell 2 (.int .i64 140)).setCell 3 (.int .i64 (at_ : Int))⟩)
  have hSd : w.drew.cell? ⟨cb, 0, none⟩ = some (Value.string s) ∧ w.drew.cell? ⟨cb, 1, none⟩ = some (Value.int .i64 (at_ : Int)) ∧ Below w.heap.size w w.drew := ⟨hMd.1.cell0, hMd.1.cell1, (Below.refl _ _).drew⟩
  have d1 := hMd.1.cell1
  clear h hMd
  by_cases hlt : at_ < s.size
  · have hE : ((at_ : Int) == (s.size : Int)) = false := by simp; omega
    have hE2 : ¬ (at_ : Int) = (s.size : Int) := by omega
    have hIs : (at_ : Int) < s.size := by omega
    clear hlt
    go_enter Tryz.func87, Tryz.ntmps87
    go_upto_region 1 with fail
    refine wp_region_held_drew (S := fun w' => w'.cell? ⟨cb, 0, none⟩ = some (Value.string s) ∧ w'.cell? ⟨cb, 1, none⟩ = some (Value.int .i64 (at_ : Int)) ∧ Below w.heap.size w w') (by kernel_rfl) (hSd) (fun hHeld => ?_)
    refine tkH 0 hHeld ?_
    refine tkH 1 hHeld ?_
    refine tkH 2 hHeld ?_
    refine tkH 3 hHeld ?_
    refine tkH 4 hHeld ?_
    refine tkH 5 hHeld ?_
    refine tkH 6 hHeld ?_
    refine tkH 7 hHeld ?_
    refine tkH 8 hHeld ?_
    refine tkH 9 hHeld ?_
    refine tkH 10 hHeld ?_
    refine tkH 11 hHeld ?_
    refine tkH 12 hHeld ?_
    refine tkH 13 hHeld ?_
    refine tkH 14 hHeld ?_
    refine tkH 15 hHeld ?_
    refine tkH 16 hHeld ?_
    refine tkH 17 hHeld ?_
    refine tkH 18 hHeld ?_
    refine tkH 19 hHeld ?_
    refine tkH 20 hHeld ?_
    refine tkH 21 hHeld ?_
    refine tkH 22 hHeld ?_
    refine tkH 23 hHeld ?_
    refine tkH 24 hHeld ?_
    refine tkH 25 hHeld ?_
    refine tkH 26 hHeld ?_
    refine tkH 27 hHeld ?_
    refine tkH 28 hHeld ?_
    refine tkH 29 hHeld ?_
    refine tkH 30 hHeld ?_
    refine tkH 31 hHeld ?_
    refine tkH 32 hHeld ?_
    refine tkH 33 hHeld ?_
    refine wpAnyH_done (by kernel_rfl) ?_ _
    clear hHeld hSd
    go_wp2_with fail
    refine hwf.mono ?_
    rintro e w' ⟨rfl, rfl⟩
    clear hwf
    go_wp2_with fail
    go_ret
    rw [HX.out]
    exact ⟨by decide, ⟨_, rfl⟩, at_, ha, HM5.out⟩
  · obtain rfl : at_ = s.size := by omega
    clear hlt
    go_enter Tryz.func87, Tryz.ntmps87
    go_upto_region 1 with fail
    refine wp_region_held_drew (S := fun w' => w'.cell? ⟨cb, 0, none⟩ = some (Value.string s) ∧ w'.cell? ⟨cb, 1, none⟩ = some (Value.int .i64 (s.size : Int)) ∧ Below w.heap.size w w') (by kernel_rfl) (hSd) (fun hHeld => ?_)
    refine tkH 0 hHeld ?_
    refine tkH 1 hHeld ?_
    refine tkH 2 hHeld ?_
    refine tkH 3 hHeld ?_
    refine tkH 4 hHeld ?_
    refine tkH 5 hHeld ?_
    refine tkH 6 hHeld ?_
    refine tkH 7 hHeld ?_
    refine tkH 8 hHeld ?_
    refine tkH 9 hHeld ?_
    refine tkH 10 hHeld ?_
    refine skH 11 hHeld ?_
    refine skH 12 hHeld ?_
    refine skH 13 hHeld ?_
    refine skH 14 hHeld ?_
    refine skH 15 hHeld ?_
    refine skH 16 hHeld ?_
    refine skH 17 hHeld ?_
    refine skH 18 hHeld ?_
    refine skH 19 hHeld ?_
    refine skH 20 hHeld ?_
    refine skH 21 hHeld ?_
    refine skH 22 hHeld ?_
    refine skH 23 hHeld ?_
    refine skH 24 hHeld ?_
    refine skH 25 hHeld ?_
    refine skH 26 hHeld ?_
    refine skH 27 hHeld ?_
    refine skH 28 hHeld ?_
    refine skH 29 hHeld ?_
    refine skH 30 hHeld ?_
    refine skH 31 hHeld ?_
    refine skH 32 hHeld ?_
    refine tkH 33 hHeld ?_
    refine wpAnyH_done (by kernel_rfl) ?_ _
    clear hHeld hSd
    go_wp2_with fail
    refine hwf.mono ?_
    rintro e w' ⟨rfl, rfl⟩
    clear hwf
    go_wp2_with fail
    go_ret
    rw [HX.out]
    exact ⟨by decide, ⟨_, rfl⟩, s.size, Nat.le_refl _, HM5.out⟩
theorem rValue_34 (h : Scn cb s at_ 0 0 c4 c5 c6 c7 w) (ha : at_ ≤ s.size) (hz : s.size ≤ 100000000) (hQ : bt s at_ = 34) :
    Calls Tryz.prog 87 #[.pointer (some ⟨cb, 0, none⟩)] w fun en w' => SEnd (valX s at_) (fun b => .string b) cb s c4 c5 c6 c7 w en w' := by
  obtain ⟨i0, hi, hz0, hz1, hz2⟩ := info_parts binfo
  have hbt := get_bt s
  have hlt : at_ < s.size := by
    by_cases hh : at_ < s.size
    · exact hh
    · rw [bt_end s (by omega)] at hQ; omega
  have HX0 := Lib.hid (valX_quote (by omega) hQ)
  have hMd := h.moved (Below.refl w.heap.size w).drew
  have HM := Lib.hid hMd
  have ha0 : (0 : Int) ≤ at_ := by omega
  have hIs : (at_ : Int) < s.size := by omega
  have hE : ((at_ : Int) == (s.size : Int)) = false := by simp; omega
  have hE2 : ¬ (at_ : Int) = (s.size : Int) := by omega
  have hSd : w.drew.cell? ⟨cb, 0, none⟩ = some (Value.string s) ∧ w.drew.cell? ⟨cb, 1, none⟩ = some (Value.int .i64 (at_ : Int)) ∧ Below w.heap.size w w.drew := ⟨hMd.1.cell0, hMd.1.cell1, (Below.refl _ _).drew⟩
  have HIN := Lib.hid hlt
  have HCB := Lib.hid h.lt
  clear h hMd hlt ha
  go_enter Tryz.func87, Tryz.ntmps87
  go_upto_region 1 with fail
  refine wp_region_held_drew (S := fun w' => w'.cell? ⟨cb, 0, none⟩ = some (Value.string s) ∧ w'.cell? ⟨cb, 1, none⟩ = some (Value.int .i64 (at_ : Int)) ∧ Below w.heap.size w w') (by kernel_rfl) (hSd) (fun hHeld => ?_)
  refine tkH 0 hHeld ?_
  refine tkH 1 hHeld ?_
  refine tkH 2 hHeld ?_
  refine tkH 3 hHeld ?_
  refine tkH 4 hHeld ?_
  refine tkH 5 hHeld ?_
  refine tkH 6 hHeld ?_
  refine tkH 7 hHeld ?_
  refine tkH 8 hHeld ?_
  refine tkH 9 hHeld ?_
  refine tkH 10 hHeld ?_
  refine tkH 11 hHeld ?_
  refine tkH 12 hHeld ?_
  refine tkH 13 hHeld ?_
  refine tkH 14 hHeld ?_
  refine tkH 15 hHeld ?_
  refine tkH 16 hHeld ?_
  refine tkH 17 hHeld ?_
  refine tkH 18 hHeld ?_
  refine tkH 19 hHeld ?_
  refine tkH 20 hHeld ?_
  refine tkH 21 hHeld ?_
  refine skH 22 hHeld ?_
  refine skH 23 hHeld ?_
  refine skH 24 hHeld ?_
  refine skH 25 hHeld ?_
  refine skH 26 hHeld ?_
  refine skH 27 hHeld ?_
  refine skH 28 hHeld ?_
  refine skH 29 hHeld ?_
  refine skH 30 hHeld ?_
  refine skH 31 hHeld ?_
  refine tkH 32 hHeld ?_
  refine tkH 33 hHeld ?_
  refine wpAnyH_done (by kernel_rfl) ?_ _
  have HSD := hSd.2.2
  generalize hw0 : w.drew = w0 at *
  clear hw0 hHeld hSd
  have hSd : w0.drew.cell? ⟨cb, 0, none⟩ = some (Value.string s) ∧ w0.drew.cell? ⟨cb, 1, none⟩ = some (Value.int .i64 (at_ : Int)) ∧ Below w0.heap.size w0 w0.drew := ⟨HM.out.1.cell0, HM.out.1.cell1, (Below.refl _ _).drew⟩
  go_upto_region 4 with fail
  refine wp_region_held_drew (S := fun w' => w'.cell? ⟨cb, 0, none⟩ = some (Value.string s) ∧ w'.cell? ⟨cb, 1, none⟩ = some (Value.int .i64 (at_ : Int)) ∧ Below w0.heap.size w0 w') (by kernel_rfl) (hSd) (fun hHeld => ?_)
  refine tkH 0 hHeld ?_
  refine tkH 1 hHeld ?_
  refine tkH 2 hHeld ?_
  refine tkH 3 hHeld ?_
  refine tkH 4 hHeld ?_
  refine tkH 5 hHeld ?_
  refine tkH 6 hHeld ?_
  refine tkH 7 hHeld ?_
  refine tkH 8 hHeld ?_
  refine tkH 9 hHeld ?_
  refine tkH 10 hHeld ?_
  refine tkH 11 hHeld ?_
  refine tkH 12 hHeld ?_
  refine tkH 13 hHeld ?_
  refine tkH 14 hHeld ?_
  refine wpAnyH_done (by kernel_rfl) ?_ _
  have hM2 := HM.out.on hSd.2.2
  have d1 := hM2.1.cell1
  have d0 := freeH hM2.1 1
  have f1 : IntKind.i64.wrap ((at_ : Int) + 1) = ((at_ + 1 : Nat) : Int) := by rw [IntWalk.i64_in _ (by omega)]; omega
  have HM3 := Lib.hid (hM2.set (at_ + 1))
  clear hM2 hHeld hSd HSD
  go_wp2_with fail
  clear d1 d0 f1 hE hE2 hIs
  try rw [hQ]
  obtain ⟨R, hR⟩ : ∃ R, valF s 34 (s.size + 1 - at_) (at_ + 1) ⟨#[]⟩ = R := ⟨_, rfl⟩
  rw [hR] at HX0
  have HR := Lib.hid hR
  clear hR hQ
  go_loopg [5] (s.size + 1 - at_) (fun f s5 wx => ∃ l : List UInt8, Br w.heap.size wx s5 l ∧ l.length ≤ 400000004 ∧ ((∃ p g : Nat, f + p = s.size + 2 ∧ at_ + 1 ≤ p ∧ p ≤ s.size ∧ s.size < p + g ∧ l.length ≤ 4 * p ∧ R = valF s 34 g p ⟨l.toArray⟩ ∧ ScnM cb s 0 0 c4 c5 c6 c7 w p wx) ∨ (∃ (e : Int) (a q : Nat), e ≠ 0 ∧ q ≤ s.size ∧ R = .bad e a ∧ ScnM cb s e (a : Int) c4 c5 c6 c7 w q wx)))
  case atStart => exact ⟨[], Br.nil _ _, by simp, .inl ⟨at_ + 1, s.size + 1 - at_, by have := HIN.out; omega, Nat.le_refl _, HIN.out, by have := HIN.out; omega, by simp, HR.out.symm, HM3.out⟩⟩
  case round =>
    clear HR
    obtain ⟨l, hrow, hl0, ⟨p, g, hg, hap, hp, hgf, hl, hc, hM⟩ | ⟨e, a, q, he, hq, hc, hM⟩⟩ := hrel
    · obtain ⟨g, rfl⟩ : ∃ k, g = k + 1 := ⟨g - 1, by omega⟩
      have hbd := bad_no hM.1
      have HG := Lib.hid (And.intro hg (And.intro (And.intro hgf hap) hl)); have HC := Lib.hid hc; have HM := Lib.hid hM; have HROW := Lib.hid hrow
      have hp0 : (0 : Int) ≤ p := by omega
      have hps : (p : Int) ≤ s.size := by omega
      obtain ⟨va, vc, hv⟩ := hrow.form
      subst hv
      have hSd : wr.drew.cell? ⟨cb, 0, none⟩ = some (Value.string s) ∧ wr.drew.cell? ⟨cb, 1, none⟩ = some (Value.int .i64 (p : Int)) ∧ Below wr.heap.size wr wr.drew := ⟨hM.1.cell0, hM.1.cell1, (Below.refl _ _).drew⟩
      clear hg hgf hap hl hc hM hrow hl0
      by_cases hlt : p < s.size
      · have hIs : (p : Int) < s.size := by omega
        have hE : ((p : Int) == (s.size : Int)) = false := by simp; omega
        have hE2 : ¬ (p : Int) = (s.size : Int) := by omega
        have HLT := Lib.hid hlt
        clear hlt
        go_wp2_with fail
        refine hbd.mono ?_
        rintro en w' ⟨rfl, rfl⟩
        by_cases h60 : bt s p = 60
        · have HX := Lib.hid (HC.out.trans (valF_bad (by omega) (.inr h60)))
          have h60b : (bt s p == 60) = true := by simpa using h60
          go_upto_region 9 with fail
          refine wp_region_held_drew (S := fun w' => w'.cell? ⟨cb, 0, none⟩ = some (Value.string s) ∧ w'.cell? ⟨cb, 1, none⟩ = some (Value.int .i64 (p : Int)) ∧ Below wr.heap.size wr w') (by kernel_rfl) (hSd) (fun hHeld => ?_)
          refine tkH 0 hHeld ?_
          refine tkH 1 hHeld ?_
          refine tkH 2 hHeld ?_
          refine tkH 3 hHeld ?_
          refine tkH 4 hHeld ?_
          refine tkH 5 hHeld ?_
          refine tkH 6 hHeld ?_
          refine tkH 7 hHeld ?_
          refine tkH 8 hHeld ?_
          refine tkH 9 hHeld ?_
          refine tkH 10 hHeld ?_
          refine tkH 11 hHeld ?_
          refine tkH 12 hHeld ?_
          refine tkH 13 hHeld ?_
          refine tkH 14 hHeld ?_
          refine tkH 15 hHeld ?_
          refine tkH 16 hHeld ?_
          refine tkH 17 hHeld ?_
          refine tkH 18 hHeld ?_
          refine tkH 19 hHeld ?_
          refine tkH 20 hHeld ?_
          refine tkH 21 hHeld ?_
          refine tkH 22 hHeld ?_
          refine wpAnyH_done (by kernel_rfl) ?_ _
          have hM2 := HM.out.on hSd.2.2
          have d1 := hM2.1.cell1
          have hwf := wrong_first hM2.1 140 (p : Int)
          have hrow2 := HROW.out.on hSd.2.2
          have HM5 := Lib.hid (show ScnM cb s 140 (p : Int) c4 c5 c6 c7 w p ((wr.drew.setCell ⟨cb, 2, none⟩ (.int .i64 140)).setCell ⟨cb, 3, none⟩ (.int .i64 (p : Int))) from ⟨hM2.1.mark 140 (p : Int), (hM2.2.setCell 2 (.int .i64 140)).setCell 3 (.int .i64 (p : Int))⟩)
          have HR5 := Lib.hid (hrow2.later (w' := (wr.drew.setCell ⟨cb, 2, none⟩ (.int .i64 140)).setCell ⟨cb, 3, none⟩ (.int .i64 (p : Int))) (fun k hk => by
            have := (hrow2.lt k hk).1
            have h2 := HCB.out
            exact (Below.heap_setCell _ _ _ _ (by simp; omega)).trans (Below.heap_setCell _ _ _ _ (by simp; omega))))
          clear hHeld hSd hM2 hbd h60 h60b hrow2
          go_wp2_with fail
          refine hwf.mono ?_
          rintro en w' ⟨rfl, rfl⟩
          clear hwf
          go_wp2_with fail
          go_roundg 0
          case rel => exact ⟨l, HR5.out, by have := HG.out; omega, .inr ⟨140, p, p, by decide, hp, HX.out, HM5.out⟩⟩
          case measure => have := HG.out; omega
        · have h60b : (bt s p == 60) = false := by simpa using h60
          have H60 := Lib.hid h60
          go_upto_region 9 with fail
          refine wp_region_held_drew (S := fun w' => w'.cell? ⟨cb, 0, none⟩ = some (Value.string s) ∧ w'.cell? ⟨cb, 1, none⟩ = some (Value.int .i64 (p : Int)) ∧ Below wr.heap.size wr w') (by kernel_rfl) (hSd) (fun hHeld => ?_)
          refine tkH 0 hHeld ?_
          refine tkH 1 hHeld ?_
          refine tkH 2 hHeld ?_
          refine tkH 3 hHeld ?_
          refine tkH 4 hHeld ?_
          refine tkH 5 hHeld ?_
          refine tkH 6 hHeld ?_
          refine tkH 7 hHeld ?_
          refine tkH 8 hHeld ?_
          refine tkH 9 hHeld ?_
          refine tkH 10 hHeld ?_
          refine tkH 11 hHeld ?_
          refine tkH 12 hHeld ?_
          refine tkH 13 hHeld ?_
          refine tkH 14 hHeld ?_
          refine tkH 15 hHeld ?_
          refine tkH 16 hHeld ?_
          refine tkH 17 hHeld ?_
          refine tkH 18 hHeld ?_
          refine tkH 19 hHeld ?_
          refine tkH 20 hHeld ?_
          refine tkH 21 hHeld ?_
          refine tkH 22 hHeld ?_
          refine wpAnyH_done (by kernel_rfl) ?_ _
          have hM2 := HM.out.on hSd.2.2
          have hrow2 := HROW.out.on hSd.2.2
          have HM2 := Lib.hid hM2; have HROW2 := Lib.hid hrow2
          generalize hw2 : wr.drew = W2 at *
          clear hw2 hHeld hSd hM2 hrow2 hbd h60 h60b hE hE2 HM HROW
          have hSd : W2.drew.cell? ⟨cb, 0, none⟩ = some (Value.string s) ∧ W2.drew.cell? ⟨cb, 1, none⟩ = some (Value.int .i64 (p : Int)) ∧ Below W2.heap.size W2 W2.drew := ⟨HM2.out.1.cell0, HM2.out.1.cell1, (Below.refl _ _).drew⟩
          by_cases hqq : bt s p = 34
          · have hqb : (bt s p == 34) = true := by simpa using hqq
            have hRx := HC.out.trans (valF_end hqq)
            have hM3 := HM2.out.on hSd.2.2
            have htx := (HROW2.out.on hSd.2.2)
            have d1 := hM3.1.cell1
            have d0 := freeH hM3.1 1
            have f1 : IntKind.i64.wrap ((p : Int) + 1) = ((p + 1 : Nat) : Int) := by rw [IntWalk.i64_in _ (by omega)]; omega
            have hM4 := hM3.set (p + 1)
            have hrow4 := htx.later (w' := W2.drew.setCell ⟨cb, 1, none⟩ (.int .i64 ((p + 1 : Nat) : Int))) (fun k hk => by
              have := (htx.lt k hk).1
              have h2 := HCB.out
              exact (Below.heap_setCell _ _ _ _ (by simp; omega)))
            have HM4 := Lib.hid hM4; have HROW4 := Lib.hid hrow4
            have HXX := HX0.out
            rw [hRx] at HXX
            by_cases hlong : 4096 < l.length
            · have hI4 : (4096 : Int) < (l.length : Int) := by omega
              have HX := Lib.hid (show valX s at_ = .bad 3 at_ by rw [HXX]; exact if_pos hlong)
              have hwf := wrong_first hM4.1 3 (at_ : Int)
              have hM5 : ScnM cb s 3 (at_ : Int) c4 c5 c6 c7 w (p + 1) (((W2.drew.setCell ⟨cb, 1, none⟩ (.int .i64 ((p + 1 : Nat) : Int))).setCell ⟨cb, 2, none⟩ (.int .i64 3)).setCell ⟨cb, 3, none⟩ (.int .i64 (at_ : Int))) := ⟨hM4.1.mark 3 (at_ : Int), (hM4.2.setCell 2 (.int .i64 3)).setCell 3 (.int .i64 (at_ : Int))⟩
              have htx5 := (hrow4.later (w' := ((W2.drew.setCell ⟨cb, 1, none⟩ (.int .i64 ((p + 1 : Nat) : Int))).setCell ⟨cb, 2, none⟩ (.int .i64 3)).setCell ⟨cb, 3, none⟩ (.int .i64 (at_ : Int))) (fun k hk => by
                have := (hrow4.lt k hk).1
                have h2 := HCB.out
                exact (Below.heap_setCell _ _ _ _ (by simp; omega)).trans (Below.heap_setCell _ _ _ _ (by simp; omega)))).text
              have HM5 := Lib.hid hM5
              have hcast : ((p + 1 : Nat) : Int) = (p : Int) + 1 := by omega
              rw [hcast] at htx5
              clear hcast
              clear hRx hM3 htx hM4 hrow4 HXX hM5 hqq hlong
              go_upto_region 11 with fail
              refine wp_region_held_drew (S := fun w' => w'.cell? ⟨cb, 0, none⟩ = some (Value.string s) ∧ w'.cell? ⟨cb, 1, none⟩ = some (Value.int .i64 (p : Int)) ∧ Below W2.heap.size W2 w') (by kernel_rfl) (hSd) (fun hHeld => ?_)
              refine tkH 0 hHeld ?_
              refine tkH 1 hHeld ?_
              refine tkH 2 hHeld ?_
              refine tkH 3 hHeld ?_
              refine tkH 4 hHeld ?_
              refine tkH 5 hHeld ?_
              refine tkH 6 hHeld ?_
              refine tkH 7 hHeld ?_
              refine tkH 8 hHeld ?_
              refine tkH 9 hHeld ?_
              refine tkH 10 hHeld ?_
              refine tkH 11 hHeld ?_
              refine wpAnyH_done (by kernel_rfl) ?_ _
              clear hHeld hSd
              generalize W2.drew = W3 at *
              go_wp2_with fail
              refine hwf.mono ?_
              rintro en w' ⟨rfl, rfl⟩
              clear hwf d0 d1
              go_wp2_with fail
              go_ret
              rw [HX.out]
              exact ⟨by decide, ⟨_, rfl⟩, p + 1, HLT.out, HM5.out⟩
            · have hI4 : ¬ (4096 : Int) < (l.length : Int) := by omega
              have HX := Lib.hid (show valX s at_ = .ok (p + 1) ⟨l.toArray⟩ by rw [HXX]; exact if_neg hlong)
              have htx4 := hrow4.text
              have hcast : ((p + 1 : Nat) : Int) = (p : Int) + 1 := by omega
              rw [hcast] at htx4
              clear hcast
              clear hRx hM3 htx hM4 hrow4 HXX hqq hlong
              go_upto_region 11 with fail
              refine wp_region_held_drew (S := fun w' => w'.cell? ⟨cb, 0, none⟩ = some (Value.string s) ∧ w'.cell? ⟨cb, 1, none⟩ = some (Value.int .i64 (p : Int)) ∧ Below W2.heap.size W2 w') (by kernel_rfl) (hSd) (fun hHeld => ?_)
              refine tkH 0 hHeld ?_
              refine tkH 1 hHeld ?_
              refine tkH 2 hHeld ?_
              refine tkH 3 hHeld ?_
              refine tkH 4 hHeld ?_
              refine tkH 5 hHeld ?_
              refine tkH 6 hHeld ?_
              refine tkH 7 hHeld ?_
              refine tkH 8 hHeld ?_
              refine tkH 9 hHeld ?_
              refine tkH 10 hHeld ?_
              refine tkH 11 hHeld ?_
              refine wpAnyH_done (by kernel_rfl) ?_ _
              clear hHeld hSd
              generalize W2.drew = W3 at *
              go_wp2_with fail
              go_ret
              rw [HX.out]
              exact ⟨rfl, HM4.out⟩
          · have hqb : (bt s p == 34) = false := by simpa using hqq
            have hst := HC.out.trans (valF_go (acc := ⟨l.toArray⟩) hqq (by have := HLT.out; have := H60.out; omega))
            have hM3 := HM2.out.on hSd.2.2
            have hrow3 := HROW2.out.on hSd.2.2
            have hpc := rPiece_any hM3.1 HLT.out (by omega)
            have HST := Lib.hid hst; have HM3 := Lib.hid hM3; have HROW3 := Lib.hid hrow3
            clear hst hM3 hrow3 hqq
            go_upto_region 11 with fail
            refine wp_region_held_drew (S := fun w' => w'.cell? ⟨cb, 0, none⟩ = some (Value.string s) ∧ w'.cell? ⟨cb, 1, none⟩ = some (Value.int .i64 (p : Int)) ∧ Below W2.heap.size W2 w') (by kernel_rfl) (hSd) (fun hHeld => ?_)
            refine tkH 0 hHeld ?_
            refine tkH 1 hHeld ?_
            refine tkH 2 hHeld ?_
            refine tkH 3 hHeld ?_
            refine tkH 4 hHeld ?_
            refine tkH 5 hHeld ?_
            refine tkH 6 hHeld ?_
            refine tkH 7 hHeld ?_
            refine tkH 8 hHeld ?_
            refine tkH 9 hHeld ?_
            refine tkH 10 hHeld ?_
            refine tkH 11 hHeld ?_
            refine wpAnyH_done (by kernel_rfl) ?_ _
            clear hHeld hSd hqb
            go_wp2_with fail
            refine hpc.mono ?_
            intro en w3 hE
            clear hpc
            unfold PcEnd at hE
            cases hpx : pieceX s p with
            | bad ee aa =>
              rw [hpx] at hE
              obtain ⟨hee, rfl, q, hq, hMq⟩ := hE
              have hx := HST.out
              rw [hpx] at hx
              have hM4 := HM3.out.next hMq
              have hrow4 := HROW3.out.later (fun k hk => hMq.2.block k (HROW3.out.lt k hk).2 (by have := (HROW3.out.lt k hk).1; have := HCB.out; omega))
              have hbase : w.heap.size ≤ w3.heap.size := hM4.2.size
              have hown : w3.ownsRow w.heap.size 5 1 _ l.length (Lib.byteCells l) := hrow4
              have HX := Lib.hid hx; have HM4 := Lib.hid hM4; have HEE := Lib.hid hee
              have hl400 : l.length ≤ 400000000 := by have := HG.out; omega
              clear hx hM4 hMq hrow4 hee hpx
              go_wp2_with (at_builtin; refine Lib.wpList_append_own_string _ rfl _ _ 60 9 rfl w.heap.size 5 i0 Tryz.underlying60 Tryz.underlying9 hi hz0 hz1 hz2 _ _ _ rfl hown ⟨#[]⟩ rfl ?c3 ?c4 ?c5 ?_)
              case c3 => unfold maxLen; simp [ByteArray.size]; omega
              case c4 => simp [ByteArray.size]; omega
              case c5 => exact hbase
              intro v' w4 hown' hgrow _
              have hB2 := grown_below hgrow hbase (fun k hk => (World.ownsRow.lt hown k hk).1)
              have HR := Lib.hid (Br.more (s := ⟨#[]⟩) hown')
              have HM5 := Lib.hid (show ScnM cb s ee (aa : Int) c4 c5 c6 c7 w q w4 from ⟨HM4.out.1.low HCB.out hB2, HM4.out.2.trans (KeepX.of hB2 (Nat.le_refl _))⟩)
              clear hgrow hown' hB2
              go_wp2_with fail
              go_roundg 0
              case rel => exact ⟨_, HR.out, by simp; omega, .inr ⟨ee, aa, q, HEE.out, hq, HX.out, HM5.out⟩⟩
              case measure => have := HG.out; omega
            | ok q b =>
              rw [hpx] at hE
              obtain ⟨rfl, hMq⟩ := hE
              have hx := HST.out
              rw [hpx] at hx
              simp only at hx
              rw [toA_append] at hx
              have hpi := piece_in hpx (by have := HLT.out; omega)
              have hM4 := HM3.out.trans hMq
              have hrow4 := HROW3.out.later (fun k hk => hMq.2.block k (HROW3.out.lt k hk).2 (by have := (HROW3.out.lt k hk).1; have := HCB.out; omega))
              have hbase : w.heap.size ≤ w3.heap.size := hM4.2.size
              have hown : w3.ownsRow w.heap.size 5 1 _ l.length (Lib.byteCells l) := hrow4
              have HX := Lib.hid hx; have HM4 := Lib.hid hM4; have HPI := Lib.hid hpi
              have hl400 : l.length ≤ 400000000 := by have := HG.out; omega
              have hbz : b.size ≤ 400000000 := by have := HPI.out; omega
              clear hx hM4 hMq hrow4 hpx hpi
              go_wp2_with (at_builtin; refine Lib.wpList_append_own_string _ rfl _ _ 60 9 rfl w.heap.size 5 i0 Tryz.underlying60 Tryz.underlying9 hi hz0 hz1 hz2 _ _ _ rfl hown b rfl ?c3 ?c4 ?c5 ?_)
              case c3 => unfold maxLen; omega
              case c4 => omega
              case c5 => exact hbase
              intro v' w4 hown' hgrow _
              have hB2 := grown_below hgrow hbase (fun k hk => (World.ownsRow.lt hown k hk).1)
              have HR := Lib.hid (Br.more hown')
              have HM5 := Lib.hid (show ScnM cb s 0 0 c4 c5 c6 c7 w q w4 from ⟨HM4.out.1.low HCB.out hB2, HM4.out.2.trans (KeepX.of hB2 (Nat.le_refl _))⟩)
              clear hgrow hown' hB2
              have hbl : b.data.toList.length = b.size := rfl
              go_wp2_with fail
              go_roundg (s.size + 2 - q)
              case rel => exact ⟨_, HR.out, by rw [List.length_append]; have := HPI.out; have := HG.out; omega, .inl ⟨q, g, by have := HPI.out; omega, by have := HPI.out; have := HG.out; omega, by have := HPI.out; omega, by have := HPI.out; have := HG.out; omega, by rw [List.length_append]; have := HPI.out; have := HG.out; omega, HX.out, HM5.out⟩⟩
              case measure => have := HPI.out; have := HG.out; omega
      · obtain rfl : p = s.size := by omega
        have HX := Lib.hid (HC.out.trans (valF_bad (by rw [bt_end s (Nat.le_refl _)]; decide) (.inl (Nat.le_refl _))))
        clear hlt
        go_wp2_with fail
        refine hbd.mono ?_
        rintro en w' ⟨rfl, rfl⟩
        go_upto_region 9 with fail
        refine wp_region_held_drew (S := fun w' => w'.cell? ⟨cb, 0, none⟩ = some (Value.string s) ∧ w'.cell? ⟨cb, 1, none⟩ = some (Value.int .i64 (s.size : Int)) ∧ Below wr.heap.size wr w') (by kernel_rfl) (hSd) (fun hHeld => ?_)
        refine tkH 0 hHeld ?_
        refine tkH 1 hHeld ?_
        refine tkH 2 hHeld ?_
        refine tkH 3 hHeld ?_
        refine tkH 4 hHeld ?_
        refine tkH 5 hHeld ?_
        refine tkH 6 hHeld ?_
        refine tkH 7 hHeld ?_
        refine tkH 8 hHeld ?_
        refine tkH 9 hHeld ?_
        refine tkH 10 hHeld ?_
        refine skH 11 hHeld ?_
        refine skH 12 hHeld ?_
        refine skH 13 hHeld ?_
        refine skH 14 hHeld ?_
        refine skH 15 hHeld ?_
        refine skH 16 hHeld ?_
        refine skH 17 hHeld ?_
        refine skH 18 hHeld ?_
        refine skH 19 hHeld ?_
        refine skH 20 hHeld ?_
        refine tkH 21 hHeld ?_
        refine tkH 22 hHeld ?_
        refine wpAnyH_done (by kernel_rfl) ?_ _
        have hM2 := HM.out.on hSd.2.2
        have d1 := hM2.1.cell1
        have hwf := wrong_first hM2.1 140 (s.size : Int)
        have hrow2 := HROW.out.on hSd.2.2
        have HM5 := Lib.hid (show ScnM cb s 140 (s.size : Int) c4 c5 c6 c7 w s.size ((wr.drew.setCell ⟨cb, 2, none⟩ (.int .i64 140)).setCell ⟨cb, 3, none⟩ (.int .i64 (s.size : Int))) from ⟨hM2.1.mark 140 (s.size : Int), (hM2.2.setCell 2 (.int .i64 140)).setCell 3 (.int .i64 (s.size : Int))⟩)
        have HR5 := Lib.hid (hrow2.later (w' := (wr.drew.setCell ⟨cb, 2, none⟩ (.int .i64 140)).setCell ⟨cb, 3, none⟩ (.int .i64 (s.size : Int))) (fun k hk => by
          have := (hrow2.lt k hk).1
          have h2 := HCB.out
          exact (Below.heap_setCell _ _ _ _ (by simp; omega)).trans (Below.heap_setCell _ _ _ _ (by simp; omega))))
        clear hHeld hSd hM2 hbd hrow2
        go_wp2_with fail
        refine hwf.mono ?_
        rintro en w' ⟨rfl, rfl⟩
        clear hwf
        go_wp2_with fail
        go_roundg 0
        case rel => exact ⟨l, HR5.out, by have := HG.out; omega, .inr ⟨140, s.size, s.size, by decide, Nat.le_refl _, HX.out, HM5.out⟩⟩
        case measure => have := HG.out; omega
    · have hbd := bad_yes hM.1 he
      have HX := Lib.hid (show valX s at_ = .bad e a by rw [HX0.out, hc]); have HM := Lib.hid hM; have HE := Lib.hid he
      clear hc hM he hrow
      go_wp2_with fail
      refine hbd.mono ?_
      rintro en w' ⟨rfl, rfl⟩
      go_wp2_with fail
      go_ret
      rw [HX.out]
      exact ⟨HE.out, ⟨_, rfl⟩, q, hq, HM.out⟩
theorem rValue_39 (h : Scn cb s at_ 0 0 c4 c5 c6 c7 w) (ha : at_ ≤ s.size) (hz : s.size ≤ 100000000) (hQ : bt s at_ = 39) :
    Calls Tryz.prog 87 #[.pointer (some ⟨cb, 0, none⟩)] w fun en w' => SEnd (valX s at_) (fun b => .string b) cb s c4 c5 c6 c7 w en w' := by
  obtain ⟨i0, hi, hz0, hz1, hz2⟩ := info_parts binfo
  have hbt := get_bt s
  have hlt : at_ < s.size := by
    by_cases hh : at_ < s.size
    · exact hh
    · rw [bt_end s (by omega)] at hQ; omega
  have HX0 := Lib.hid (valX_quote (by omega) hQ)
  have hMd := h.moved (Below.refl w.heap.size w).drew
  have HM := Lib.hid hMd
  have ha0 : (0 : Int) ≤ at_ := by omega
  have hIs : (at_ : Int) < s.size := by omega
  have hE : ((at_ : Int) == (s.size : Int)) = false := by simp; omega
  have hE2 : ¬ (at_ : Int) = (s.size : Int) := by omega
  have hSd : w.drew.cell? ⟨cb, 0, none⟩ = some (Value.string s) ∧ w.drew.cell? ⟨cb, 1, none⟩ = some (Value.int .i64 (at_ : Int)) ∧ Below w.heap.size w w.drew := ⟨hMd.1.cell0, hMd.1.cell1, (Below.refl _ _).drew⟩
  have HIN := Lib.hid hlt
  have HCB := Lib.hid h.lt
  clear h hMd hlt ha
  go_enter Tryz.func87, Tryz.ntmps87
  go_upto_region 1 with fail
  refine wp_region_held_drew (S := fun w' => w'.cell? ⟨cb, 0, none⟩ = some (Value.string s) ∧ w'.cell? ⟨cb, 1, none⟩ = some (Value.int .i64 (at_ : Int)) ∧ Below w.heap.size w w') (by kernel_rfl) (hSd) (fun hHeld => ?_)
  refine tkH 0 hHeld ?_
  refine tkH 1 hHeld ?_
  refine tkH 2 hHeld ?_
  refine tkH 3 hHeld ?_
  refine tkH 4 hHeld ?_
  refine tkH 5 hHeld ?_
  refine tkH 6 hHeld ?_
  refine tkH 7 hHeld ?_
  refine tkH 8 hHeld ?_
  refine tkH 9 hHeld ?_
  refine tkH 10 hHeld ?_
  refine tkH 11 hHeld ?_
  refine tkH 12 hHeld ?_
  refine tkH 13 hHeld ?_
  refine tkH 14 hHeld ?_
  refine tkH 15 hHeld ?_
  refine tkH 16 hHeld ?_
  refine tkH 17 hHeld ?_
  refine tkH 18 hHeld ?_
  refine tkH 19 hHeld ?_
  refine tkH 20 hHeld ?_
  refine tkH 21 hHeld ?_
  refine tkH 22 hHeld ?_
  refine tkH 23 hHeld ?_
  refine tkH 24 hHeld ?_
  refine tkH 25 hHeld ?_
  refine tkH 26 hHeld ?_
  refine tkH 27 hHeld ?_
  refine tkH 28 hHeld ?_
  refine tkH 29 hHeld ?_
  refine tkH 30 hHeld ?_
  refine tkH 31 hHeld ?_
  refine tkH 32 hHeld ?_
  refine tkH 33 hHeld ?_
  refine wpAnyH_done (by kernel_rfl) ?_ _
  have HSD := hSd.2.2
  generalize hw0 : w.drew = w0 at *
  clear hw0 hHeld hSd
  have hSd : w0.drew.cell? ⟨cb, 0, none⟩ = some (Value.string s) ∧ w0.drew.cell? ⟨cb, 1, none⟩ = some (Value.int .i64 (at_ : Int)) ∧ Below w0.heap.size w0 w0.drew := ⟨HM.out.1.cell0, HM.out.1.cell1, (Below.refl _ _).drew⟩
  go_upto_region 4 with fail
  refine wp_region_held_drew (S := fun w' => w'.cell? ⟨cb, 0, none⟩ = some (Value.string s) ∧ w'.cell? ⟨cb, 1, none⟩ = some (Value.int .i64 (at_ : Int)) ∧ Below w0.heap.size w0 w') (by kernel_rfl) (hSd) (fun hHeld => ?_)
  refine tkH 0 hHeld ?_
  refine tkH 1 hHeld ?_
  refine tkH 2 hHeld ?_
  refine tkH 3 hHeld ?_
  refine tkH 4 hHeld ?_
  refine tkH 5 hHeld ?_
  refine tkH 6 hHeld ?_
  refine tkH 7 hHeld ?_
  refine tkH 8 hHeld ?_
  refine tkH 9 hHeld ?_
  refine tkH 10 hHeld ?_
  refine tkH 11 hHeld ?_
  refine tkH 12 hHeld ?_
  refine tkH 13 hHeld ?_
  refine tkH 14 hHeld ?_
  refine wpAnyH_done (by kernel_rfl) ?_ _
  have hM2 := HM.out.on hSd.2.2
  have d1 := hM2.1.cell1
  have d0 := freeH hM2.1 1
  have f1 : IntKind.i64.wrap ((at_ : Int) + 1) = ((at_ + 1 : Nat) : Int) := by rw [IntWalk.i64_in _ (by omega)]; omega
  have HM3 := Lib.hid (hM2.set (at_ + 1))
  clear hM2 hHeld hSd HSD
  go_wp2_with fail
  clear d1 d0 f1 hE hE2 hIs
  try rw [hQ]
  obtain ⟨R, hR⟩ : ∃ R, valF s 39 (s.size + 1 - at_) (at_ + 1) ⟨#[]⟩ = R := ⟨_, rfl⟩
  rw [hR] at HX0
  have HR := Lib.hid hR
  clear hR hQ
  go_loopg [5] (s.size + 1 - at_) (fun f s5 wx => ∃ l : List UInt8, Br w.heap.size wx s5 l ∧ l.length ≤ 400000004 ∧ ((∃ p g : Nat, f + p = s.size + 2 ∧ at_ + 1 ≤ p ∧ p ≤ s.size ∧ s.size < p + g ∧ l.length ≤ 4 * p ∧ R = valF s 39 g p ⟨l.toArray⟩ ∧ ScnM cb s 0 0 c4 c5 c6 c7 w p wx) ∨ (∃ (e : Int) (a q : Nat), e ≠ 0 ∧ q ≤ s.size ∧ R = .bad e a ∧ ScnM cb s e (a : Int) c4 c5 c6 c7 w q wx)))
  case atStart => exact ⟨[], Br.nil _ _, by simp, .inl ⟨at_ + 1, s.size + 1 - at_, by have := HIN.out; omega, Nat.le_refl _, HIN.out, by have := HIN.out; omega, by simp, HR.out.symm, HM3.out⟩⟩
  case round =>
    clear HR
    obtain ⟨l, hrow, hl0, ⟨p, g, hg, hap, hp, hgf, hl, hc, hM⟩ | ⟨e, a, q, he, hq, hc, hM⟩⟩ := hrel
    · obtain ⟨g, rfl⟩ : ∃ k, g = k + 1 := ⟨g - 1, by omega⟩
      have hbd := bad_no hM.1
      have HG := Lib.hid (And.intro hg (And.intro (And.intro hgf hap) hl)); have HC := Lib.hid hc; have HM := Lib.hid hM; have HROW := Lib.hid hrow
      have hp0 : (0 : Int) ≤ p := by omega
      have hps : (p : Int) ≤ s.size := by omega
      obtain ⟨va, vc, hv⟩ := hrow.form
      subst hv
      have hSd : wr.drew.cell? ⟨cb, 0, none⟩ = some (Value.string s) ∧ wr.drew.cell? ⟨cb, 1, none⟩ = some (Value.int .i64 (p : Int)) ∧ Below wr.heap.size wr wr.drew := ⟨hM.1.cell0, hM.1.cell1, (Below.refl _ _).drew⟩
      clear hg hgf hap hl hc hM hrow hl0
      by_cases hlt : p < s.size
      · have hIs : (p : Int) < s.size := by omega
        have hE : ((p : Int) == (s.size : Int)) = false := by simp; omega
        have hE2 : ¬ (p : Int) = (s.size : Int) := by omega
        have HLT := Lib.hid hlt
        clear hlt
        go_wp2_with fail
        refine hbd.mono ?_
        rintro en w' ⟨rfl, rfl⟩
        by_cases h60 : bt s p = 60
        · have HX := Lib.hid (HC.out.trans (valF_bad (by omega) (.inr h60)))
          have h60b : (bt s p == 60) = true := by simpa using h60
          go_upto_region 9 with fail
          refine wp_region_held_drew (S := fun w' => w'.cell? ⟨cb, 0, none⟩ = some (Value.string s) ∧ w'.cell? ⟨cb, 1, none⟩ = some (Value.int .i64 (p : Int)) ∧ Below wr.heap.size wr w') (by kernel_rfl) (hSd) (fun hHeld => ?_)
          refine tkH 0 hHeld ?_
          refine tkH 1 hHeld ?_
          refine tkH 2 hHeld ?_
          refine tkH 3 hHeld ?_
          refine tkH 4 hHeld ?_
          refine tkH 5 hHeld ?_
          refine tkH 6 hHeld ?_
          refine tkH 7 hHeld ?_
          refine tkH 8 hHeld ?_
          refine tkH 9 hHeld ?_
          refine tkH 10 hHeld ?_
          refine tkH 11 hHeld ?_
          refine tkH 12 hHeld ?_
          refine tkH 13 hHeld ?_
          refine tkH 14 hHeld ?_
          refine tkH 15 hHeld ?_
          refine tkH 16 hHeld ?_
          refine tkH 17 hHeld ?_
          refine tkH 18 hHeld ?_
          refine tkH 19 hHeld ?_
          refine tkH 20 hHeld ?_
          refine tkH 21 hHeld ?_
          refine tkH 22 hHeld ?_
          refine wpAnyH_done (by kernel_rfl) ?_ _
          have hM2 := HM.out.on hSd.2.2
          have d1 := hM2.1.cell1
          have hwf := wrong_first hM2.1 140 (p : Int)
          have hrow2 := HROW.out.on hSd.2.2
          have HM5 := Lib.hid (show ScnM cb s 140 (p : Int) c4 c5 c6 c7 w p ((wr.drew.setCell ⟨cb, 2, none⟩ (.int .i64 140)).setCell ⟨cb, 3, none⟩ (.int .i64 (p : Int))) from ⟨hM2.1.mark 140 (p : Int), (hM2.2.setCell 2 (.int .i64 140)).setCell 3 (.int .i64 (p : Int))⟩)
          have HR5 := Lib.hid (hrow2.later (w' := (wr.drew.setCell ⟨cb, 2, none⟩ (.int .i64 140)).setCell ⟨cb, 3, none⟩ (.int .i64 (p : Int))) (fun k hk => by
            have := (hrow2.lt k hk).1
            have h2 := HCB.out
            exact (Below.heap_setCell _ _ _ _ (by simp; omega)).trans (Below.heap_setCell _ _ _ _ (by simp; omega))))
          clear hHeld hSd hM2 hbd h60 h60b hrow2
          go_wp2_with fail
          refine hwf.mono ?_
          rintro en w' ⟨rfl, rfl⟩
          clear hwf
          go_wp2_with fail
          go_roundg 0
          case rel => exact ⟨l, HR5.out, by have := HG.out; omega, .inr ⟨140, p, p, by decide, hp, HX.out, HM5.out⟩⟩
          case measure => have := HG.out; omega
        · have h60b : (bt s p == 60) = false := by simpa using h60
          have H60 := Lib.hid h60
          go_upto_region 9 with fail
          refine wp_region_held_drew (S := fun w' => w'.cell? ⟨cb, 0, none⟩ = some (Value.string s) ∧ w'.cell? ⟨cb, 1, none⟩ = some (Value.int .i64 (p : Int)) ∧ Below wr.heap.size wr w') (by kernel_rfl) (hSd) (fun hHeld => ?_)
          refine tkH 0 hHeld ?_
          refine tkH 1 hHeld ?_
          refine tkH 2 hHeld ?_
          refine tkH 3 hHeld ?_
          refine tkH 4 hHeld ?_
          refine tkH 5 hHeld ?_
          refine tkH 6 hHeld ?_
          refine tkH 7 hHeld ?_
          refine tkH 8 hHeld ?_
          refine tkH 9 hHeld ?_
          refine tkH 10 hHeld ?_
          refine tkH 11 hHeld ?_
          refine tkH 12 hHeld ?_
          refine tkH 13 hHeld ?_
          refine tkH 14 hHeld ?_
          refine tkH 15 hHeld ?_
          refine tkH 16 hHeld ?_
          refine tkH 17 hHeld ?_
          refine tkH 18 hHeld ?_
          refine tkH 19 hHeld ?_
          refine tkH 20 hHeld ?_
          refine tkH 21 hHeld ?_
          refine tkH 22 hHeld ?_
          refine wpAnyH_done (by kernel_rfl) ?_ _
          have hM2 := HM.out.on hSd.2.2
          have hrow2 := HROW.out.on hSd.2.2
          have HM2 := Lib.hid hM2; have HROW2 := Lib.hid hrow2
          generalize hw2 : wr.drew = W2 at *
          clear hw2 hHeld hSd hM2 hrow2 hbd h60 h60b hE hE2 HM HROW
          have hSd : W2.drew.cell? ⟨cb, 0, none⟩ = some (Value.string s) ∧ W2.drew.cell? ⟨cb, 1, none⟩ = some (Value.int .i64 (p : Int)) ∧ Below W2.heap.size W2 W2.drew := ⟨HM2.out.1.cell0, HM2.out.1.cell1, (Below.refl _ _).drew⟩
          by_cases hqq : bt s p = 39
          · have hqb : (bt s p == 39) = true := by simpa using hqq
            have hRx := HC.out.trans (valF_end hqq)
            have hM3 := HM2.out.on hSd.2.2
            have htx := (HROW2.out.on hSd.2.2)
            have d1 := hM3.1.cell1
            have d0 := freeH hM3.1 1
            have f1 : IntKind.i64.wrap ((p : Int) + 1) = ((p + 1 : Nat) : Int) := by rw [IntWalk.i64_in _ (by omega)]; omega
            have hM4 := hM3.set (p + 1)
            have hrow4 := htx.later (w' := W2.drew.setCell ⟨cb, 1, none⟩ (.int .i64 ((p + 1 : Nat) : Int))) (fun k hk => by
              have := (htx.lt k hk).1
              have h2 := HCB.out
              exact (Below.heap_setCell _ _ _ _ (by simp; omega)))
            have HM4 := Lib.hid hM4; have HROW4 := Lib.hid hrow4
            have HXX := HX0.out
            rw [hRx] at HXX
            by_cases hlong : 4096 < l.length
            · have hI4 : (4096 : Int) < (l.length : Int) := by omega
              have HX := Lib.hid (show valX s at_ = .bad 3 at_ by rw [HXX]; exact if_pos hlong)
              have hwf := wrong_first hM4.1 3 (at_ : Int)
              have hM5 : ScnM cb s 3 (at_ : Int) c4 c5 c6 c7 w (p + 1) (((W2.drew.setCell ⟨cb, 1, none⟩ (.int .i64 ((p + 1 : Nat) : Int))).setCell ⟨cb, 2, none⟩ (.int .i64 3)).setCell ⟨cb, 3, none⟩ (.int .i64 (at_ : Int))) := ⟨hM4.1.mark 3 (at_ : Int), (hM4.2.setCell 2 (.int .i64 3)).setCell 3 (.int .i64 (at_ : Int))⟩
              have htx5 := (hrow4.later (w' := ((W2.drew.setCell ⟨cb, 1, none⟩ (.int .i64 ((p + 1 : Nat) : Int))).setCell ⟨cb, 2, none⟩ (.int .i64 3)).setCell ⟨cb, 3, none⟩ (.int .i64 (at_ : Int))) (fun k hk => by
                have := (hrow4.lt k hk).1
                have h2 := HCB.out
                exact (Below.heap_setCell _ _ _ _ (by simp; omega)).trans (Below.heap_setCell _ _ _ _ (by simp; omega)))).text
              have HM5 := Lib.hid hM5
              have hcast : ((p + 1 : Nat) : Int) = (p : Int) + 1 := by omega
              rw [hcast] at htx5
              clear hcast
              clear hRx hM3 htx hM4 hrow4 HXX hM5 hqq hlong
              go_upto_region 11 with fail
              refine wp_region_held_drew (S := fun w' => w'.cell? ⟨cb, 0, none⟩ = some (Value.string s) ∧ w'.cell? ⟨cb, 1, none⟩ = some (Value.int .i64 (p : Int)) ∧ Below W2.heap.size W2 w') (by kernel_rfl) (hSd) (fun hHeld => ?_)
              refine tkH 0 hHeld ?_
              refine tkH 1 hHeld ?_
              refine tkH 2 hHeld ?_
              refine tkH 3 hHeld ?_
              refine tkH 4 hHeld ?_
              refine tkH 5 hHeld ?_
              refine tkH 6 hHeld ?_
              refine tkH 7 hHeld ?_
              refine tkH 8 hHeld ?_
              refine tkH 9 hHeld ?_
              refine tkH 10 hHeld ?_
              refine tkH 11 hHeld ?_
              refine wpAnyH_done (by kernel_rfl) ?_ _
              clear hHeld hSd
              generalize W2.drew = W3 at *
              go_wp2_with fail
              refine hwf.mono ?_
              rintro en w' ⟨rfl, rfl⟩
              clear hwf d0 d1
              go_wp2_with fail
              go_ret
              rw [HX.out]
              exact ⟨by decide, ⟨_, rfl⟩, p + 1, HLT.out, HM5.out⟩
            · have hI4 : ¬ (4096 : Int) < (l.length : Int) := by omega
              have HX := Lib.hid (show valX s at_ = .ok (p + 1) ⟨l.toArray⟩ by rw [HXX]; exact if_neg hlong)
              have htx4 := hrow4.text
              have hcast : ((p + 1 : Nat) : Int) = (p : Int) + 1 := by omega
              rw [hcast] at htx4
              clear hcast
              clear hRx hM3 htx hM4 hrow4 HXX hqq hlong
              go_upto_region 11 with fail
              refine wp_region_held_drew (S := fun w' => w'.cell? ⟨cb, 0, none⟩ = some (Value.string s) ∧ w'.cell? ⟨cb, 1, none⟩ = some (Value.int .i64 (p : Int)) ∧ Below W2.heap.size W2 w') (by kernel_rfl) (hSd) (fun hHeld => ?_)
              refine tkH 0 hHeld ?_
              refine tkH 1 hHeld ?_
              refine tkH 2 hHeld ?_
              refine tkH 3 hHeld ?_
              refine tkH 4 hHeld ?_
              refine tkH 5 hHeld ?_
              refine tkH 6 hHeld ?_
              refine tkH 7 hHeld ?_
              refine tkH 8 hHeld ?_
              refine tkH 9 hHeld ?_
              refine tkH 10 hHeld ?_
              refine tkH 11 hHeld ?_
              refine wpAnyH_done (by kernel_rfl) ?_ _
              clear hHeld hSd
              generalize W2.drew = W3 at *
              go_wp2_with fail
              go_ret
              rw [HX.out]
              exact ⟨rfl, HM4.out⟩
          · have hqb : (bt s p == 39) = false := by simpa using hqq
            have hst := HC.out.trans (valF_go (acc := ⟨l.toArray⟩) hqq (by have := HLT.out; have := H60.out; omega))
            have hM3 := HM2.out.on hSd.2.2
            have hrow3 := HROW2.out.on hSd.2.2
            have hpc := rPiece_any hM3.1 HLT.out (by omega)
            have HST := Lib.hid hst; have HM3 := Lib.hid hM3; have HROW3 := Lib.hid hrow3
            clear hst hM3 hrow3 hqq
            go_upto_region 11 with fail
            refine wp_region_held_drew (S := fun w' => w'.cell? ⟨cb, 0, none⟩ = some (Value.string s) ∧ w'.cell? ⟨cb, 1, none⟩ = some (Value.int .i64 (p : Int)) ∧ Below W2.heap.size W2 w') (by kernel_rfl) (hSd) (fun hHeld => ?_)
            refine tkH 0 hHeld ?_
            refine tkH 1 hHeld ?_
            refine tkH 2 hHeld ?_
            refine tkH 3 hHeld ?_
            refine tkH 4 hHeld ?_
            refine tkH 5 hHeld ?_
            refine tkH 6 hHeld ?_
            refine tkH 7 hHeld ?_
            refine tkH 8 hHeld ?_
            refine tkH 9 hHeld ?_
            refine tkH 10 hHeld ?_
            refine tkH 11 hHeld ?_
            refine wpAnyH_done (by kernel_rfl) ?_ _
            clear hHeld hSd hqb
            go_wp2_with fail
            refine hpc.mono ?_
            intro en w3 hE
            clear hpc
            unfold PcEnd at hE
            cases hpx : pieceX s p with
            | bad ee aa =>
              rw [hpx] at hE
              obtain ⟨hee, rfl, q, hq, hMq⟩ := hE
              have hx := HST.out
              rw [hpx] at hx
              have hM4 := HM3.out.next hMq
              have hrow4 := HROW3.out.later (fun k hk => hMq.2.block k (HROW3.out.lt k hk).2 (by have := (HROW3.out.lt k hk).1; have := HCB.out; omega))
              have hbase : w.heap.size ≤ w3.heap.size := hM4.2.size
              have hown : w3.ownsRow w.heap.size 5 1 _ l.length (Lib.byteCells l) := hrow4
              have HX := Lib.hid hx; have HM4 := Lib.hid hM4; have HEE := Lib.hid hee
              have hl400 : l.length ≤ 400000000 := by have := HG.out; omega
              clear hx hM4 hMq hrow4 hee hpx
              go_wp2_with (at_builtin; refine Lib.wpList_append_own_string _ rfl _ _ 60 9 rfl w.heap.size 5 i0 Tryz.underlying60 Tryz.underlying9 hi hz0 hz1 hz2 _ _ _ rfl hown ⟨#[]⟩ rfl ?c3 ?c4 ?c5 ?_)
              case c3 => unfold maxLen; simp [ByteArray.size]; omega
              case c4 => simp [ByteArray.size]; omega
              case c5 => exact hbase
              intro v' w4 hown' hgrow _
              have hB2 := grown_below hgrow hbase (fun k hk => (World.ownsRow.lt hown k hk).1)
              have HR := Lib.hid (Br.more (s := ⟨#[]⟩) hown')
              have HM5 := Lib.hid (show ScnM cb s ee (aa : Int) c4 c5 c6 c7 w q w4 from ⟨HM4.out.1.low HCB.out hB2, HM4.out.2.trans (KeepX.of hB2 (Nat.le_refl _))⟩)
              clear hgrow hown' hB2
              go_wp2_with fail
              go_roundg 0
              case rel => exact ⟨_, HR.out, by simp; omega, .inr ⟨ee, aa, q, HEE.out, hq, HX.out, HM5.out⟩⟩
              case measure => have := HG.out; omega
            | ok q b =>
              rw [hpx] at hE
              obtain ⟨rfl, hMq⟩ := hE
              have hx := HST.out
              rw [hpx] at hx
              simp only at hx
              rw [toA_append] at hx
              have hpi := piece_in hpx (by have := HLT.out; omega)
              have hM4 := HM3.out.trans hMq
              have hrow4 := HROW3.out.later (fun k hk => hMq.2.block k (HROW3.out.lt k hk).2 (by have := (HROW3.out.lt k hk).1; have := HCB.out; omega))
              have hbase : w.heap.size ≤ w3.heap.size := hM4.2.size
              have hown : w3.ownsRow w.heap.size 5 1 _ l.length (Lib.byteCells l) := hrow4
              have HX := Lib.hid hx; have HM4 := Lib.hid hM4; have HPI := Lib.hid hpi
              have hl400 : l.length ≤ 400000000 := by have := HG.out; omega
              have hbz : b.size ≤ 400000000 := by have := HPI.out; omega
              clear hx hM4 hMq hrow4 hpx hpi
              go_wp2_with (at_builtin; refine Lib.wpList_append_own_string _ rfl _ _ 60 9 rfl w.heap.size 5 i0 Tryz.underlying60 Tryz.underlying9 hi hz0 hz1 hz2 _ _ _ rfl hown b rfl ?c3 ?c4 ?c5 ?_)
              case c3 => unfold maxLen; omega
              case c4 => omega
              case c5 => exact hbase
              intro v' w4 hown' hgrow _
              have hB2 := grown_below hgrow hbase (fun k hk => (World.ownsRow.lt hown k hk).1)
              have HR := Lib.hid (Br.more hown')
              have HM5 := Lib.hid (show ScnM cb s 0 0 c4 c5 c6 c7 w q w4 from ⟨HM4.out.1.low HCB.out hB2, HM4.out.2.trans (KeepX.of hB2 (Nat.le_refl _))⟩)
              clear hgrow hown' hB2
              have hbl : b.data.toList.length = b.size := rfl
              go_wp2_with fail
              go_roundg (s.size + 2 - q)
              case rel => exact ⟨_, HR.out, by rw [List.length_append]; have := HPI.out; have := HG.out; omega, .inl ⟨q, g, by have := HPI.out; omega, by have := HPI.out; have := HG.out; omega, by have := HPI.out; omega, by have := HPI.out; have := HG.out; omega, by rw [List.length_append]; have := HPI.out; have := HG.out; omega, HX.out, HM5.out⟩⟩
              case measure => have := HPI.out; have := HG.out; omega
      · obtain rfl : p = s.size := by omega
        have HX := Lib.hid (HC.out.trans (valF_bad (by rw [bt_end s (Nat.le_refl _)]; decide) (.inl (Nat.le_refl _))))
        clear hlt
        go_wp2_with fail
        refine hbd.mono ?_
        rintro en w' ⟨rfl, rfl⟩
        go_upto_region 9 with fail
        refine wp_region_held_drew (S := fun w' => w'.cell? ⟨cb, 0, none⟩ = some (Value.string s) ∧ w'.cell? ⟨cb, 1, none⟩ = some (Value.int .i64 (s.size : Int)) ∧ Below wr.heap.size wr w') (by kernel_rfl) (hSd) (fun hHeld => ?_)
        refine tkH 0 hHeld ?_
        refine tkH 1 hHeld ?_
        refine tkH 2 hHeld ?_
        refine tkH 3 hHeld ?_
        refine tkH 4 hHeld ?_
        refine tkH 5 hHeld ?_
        refine tkH 6 hHeld ?_
        refine tkH 7 hHeld ?_
        refine tkH 8 hHeld ?_
        refine tkH 9 hHeld ?_
        refine tkH 10 hHeld ?_
        refine skH 11 hHeld ?_
        refine skH 12 hHeld ?_
        refine skH 13 hHeld ?_
        refine skH 14 hHeld ?_
        refine skH 15 hHeld ?_
        refine skH 16 hHeld ?_
        refine skH 17 hHeld ?_
        refine skH 18 hHeld ?_
        refine skH 19 hHeld ?_
        refine skH 20 hHeld ?_
        refine tkH 21 hHeld ?_
        refine tkH 22 hHeld ?_
        refine wpAnyH_done (by kernel_rfl) ?_ _
        have hM2 := HM.out.on hSd.2.2
        have d1 := hM2.1.cell1
        have hwf := wrong_first hM2.1 140 (s.size : Int)
        have hrow2 := HROW.out.on hSd.2.2
        have HM5 := Lib.hid (show ScnM cb s 140 (s.size : Int) c4 c5 c6 c7 w s.size ((wr.drew.setCell ⟨cb, 2, none⟩ (.int .i64 140)).setCell ⟨cb, 3, none⟩ (.int .i64 (s.size : Int))) from ⟨hM2.1.mark 140 (s.size : Int), (hM2.2.setCell 2 (.int .i64 140)).setCell 3 (.int .i64 (s.size : Int))⟩)
        have HR5 := Lib.hid (hrow2.later (w' := (wr.drew.setCell ⟨cb, 2, none⟩ (.int .i64 140)).setCell ⟨cb, 3, none⟩ (.int .i64 (s.size : Int))) (fun k hk => by
          have := (hrow2.lt k hk).1
          have h2 := HCB.out
          exact (Below.heap_setCell _ _ _ _ (by simp; omega)).trans (Below.heap_setCell _ _ _ _ (by simp; omega))))
        clear hHeld hSd hM2 hbd hrow2
        go_wp2_with fail
        refine hwf.mono ?_
        rintro en w' ⟨rfl, rfl⟩
        clear hwf
        go_wp2_with fail
        go_roundg 0
        case rel => exact ⟨l, HR5.out, by have := HG.out; omega, .inr ⟨140, s.size, s.size, by decide, Nat.le_refl _, HX.out, HM5.out⟩⟩
        case measure => have := HG.out; omega
    · have hbd := bad_yes hM.1 he
      have HX := Lib.hid (show valX s at_ = .bad e a by rw [HX0.out, hc]); have HM := Lib.hid hM; have HE := Lib.hid he
      clear hc hM he hrow
      go_wp2_with fail
      refine hbd.mono ?_
      rintro en w' ⟨rfl, rfl⟩
      go_wp2_with fail
      go_ret
      rw [HX.out]
      exact ⟨HE.out, ⟨_, rfl⟩, q, hq, HM.out⟩
theorem rValue_any (h : Scn cb s at_ 0 0 c4 c5 c6 c7 w) (ha : at_ ≤ s.size) (hz : s.size ≤ 100000000) :
    Calls Tryz.prog 87 #[.pointer (some ⟨cb, 0, none⟩)] w fun en w' => SEnd (valX s at_) (fun b => .string b) cb s c4 c5 c6 c7 w en w' := by
  by_cases h1 : bt s at_ = 34
  · exact rValue_34 h ha hz h1
  · by_cases h2 : bt s at_ = 39
    · exact rValue_39 h ha hz h2
    · exact rValue_no h ha (by omega)
end
end Go.Proofs.YtnmpbphnfiiafaaGreatDoor
