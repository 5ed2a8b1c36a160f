/-
  The document's answer: a comment.
-/
import Derived.Test.YtnmpbphnfiiafaaGreatDoorXmZf
namespace Go.Proofs.YtnmpbphnfiiafaaGreatDoor
open Go.RowKit Go.PlainAid

section
set_option maxRecDepth 100000
set_option maxHeartbeats 8000000
variable {cb : Nat} {s : ByteArray} {at_ : Nat} {c4 c5 c6 c7 : Value} {w : World}
theorem rComment_any (h : Scn cb s at_ 0 0 c4 c5 c6 c7 w) (hin : at_ + 4 ≤ s.size) (hz : s.size ≤ 1000000000000000) :
    Calls Tryz.prog 60 #[.pointer (some ⟨cb, 0, none⟩)] w fun en w' => SEnd (cmtX s at_) (fun _ => .tuple #[]) cb s c4 c5 c6 c7 w en w' := by
  have c1 := h.cell1
  have d0 := freeH h 1
  have f1 : IntKind.i64.wrap ((at_ : Int) + 4) = ((at_ + 4 : Nat) : Int) := by rw [IntWalk.i64_in _ (by omega)]; omega
  have HM0 := Lib.hid ((h.moved (Below.refl w.heap.size w)).set (at_ + 4))
  have HIN := Lib.hid hin
  clear h hin
  go_enter Tryz.func60, Tryz.ntmps60
  go_wp2_with fail
  clear c1 d0 f1
  go_loopg [] (s.size + 1 - at_) (fun f wx => (∃ p g : Nat, f + p = s.size + 5 ∧ at_ + 4 ≤ p ∧ p ≤ s.size ∧ s.size < p + g ∧ cmtX s at_ = cmtF s g p ∧ ScnM cb s 0 0 c4 c5 c6 c7 w p wx) ∨ (∃ (e : Int) (a q : Nat), e ≠ 0 ∧ q ≤ s.size ∧ cmtX s at_ = .bad e a ∧ ScnM cb s e (a : Int) c4 c5 c6 c7 w q wx))
  case atStart => exact .inl ⟨at_ + 4, s.size + 1 - at_, by have := HIN.out; omega, Nat.le_refl _, HIN.out, by have := HIN.out; omega, rfl, HM0.out⟩
  case round =>
    rcases hrel with ⟨p, g, hg, hap, hp, hgf, hc, hM⟩ | ⟨e, a, q, he, hq, hc, hM⟩
    · obtain ⟨g, rfl⟩ : ∃ k, g = k + 1 := ⟨g - 1, by omega⟩
      have hbd := bad_no hM.1
      have HG := Lib.hid (And.intro hg (And.intro hap hgf)); have HC := Lib.hid hc; have HM := Lib.hid hM
      have hp0 : (0 : Int) ≤ p := by omega
      have hps : (p : Int) ≤ s.size := by omega
      have hSd : wr.drew.cell? ⟨cb, 0, none⟩ = some (Value.string s) ∧ wr.drew.cell? ⟨cb, 1, none⟩ = some (Value.int .i64 (p : Int)) ∧ Below wr.heap.size wr wr.drew := ⟨hM.1.cell0, hM.1.cell1, (Below.refl _ _).drew⟩
      clear hg hap hgf hc hM
      by_cases hlt : p < s.size
      · have hE : ((p : Int) == (s.size : Int)) = false := by simp; omega
        have hE2 : ¬ (p : Int) = (s.size : Int) := by omega
        have HLT := Lib.hid hlt
        clear hlt
        go_wp2_with fail
        refine hbd.mono ?_
        rintro e w' ⟨rfl, rfl⟩
        go_upto_region 6 with fail
        refine wp_region_held_drew (S := fun w' => w'.cell? ⟨cb, 0, none⟩ = some (Value.string s) ∧ w'.cell? ⟨cb, 1, none⟩ = some (Value.int .i64 (p : Int)) ∧ Below wr.heap.size wr w') (by kernel_rfl) (hSd) (fun hHeld => ?_)
        refine tkH 0 hHeld ?_
        refine tkH 1 hHeld ?_
        refine tkH 2 hHeld ?_
        refine tkH 3 hHeld ?_
        refine tkH 4 hHeld ?_
        refine tkH 5 hHeld ?_
        refine tkH 6 hHeld ?_
        refine tkH 7 hHeld ?_
        refine tkH 8 hHeld ?_
        refine tkH 9 hHeld ?_
        refine tkH 10 hHeld ?_
        refine wpAnyH_done (by kernel_rfl) ?_ _
        have hM2 := HM.out.on hSd.2.2
        generalize wr.drew = W2 at *
        have hi3 := is_any hM2.1 hp [45, 45, 62] (by decide)
        have HM2 := Lib.hid hM2
        clear hHeld hSd hM2 hE hE2 hbd
        have h33 : ([45, 45, 62] : List UInt8).map (fun c => (c.toNat : Int)) = [45, 45, 62] := rfl
        rw [h33] at hi3
        cases h3 : wdAt s p [45, 45, 62] with
        | true =>
          rw [h3] at hi3
          have h2 : wdAt s p [45, 45] = true := by
            simp only [wdAt, Bool.and_true, Bool.and_eq_true] at h3 ⊢
            exact ⟨h3.1, h3.2.1⟩
          have hx : cmtX s at_ = .ok (p + 3) () := by
            rw [HC.out, cmtF_end h2]
            rw [wd_three s p h2] at h3
            rw [if_pos (of_decide_eq_true h3)]
          have HX := Lib.hid hx
          clear hx h3 h2
          go_wp2_with fail
          refine hi3.mono ?_
          rintro e w3 ⟨rfl, hB3⟩
          have hM3 := HM2.out.on hB3
          have d1 := hM3.1.cell1
          have d0 := freeH hM3.1 1
          have f1 : IntKind.i64.wrap ((p : Int) + 3) = ((p + 3 : Nat) : Int) := by rw [IntWalk.i64_in _ (by omega)]; omega
          have HM3 := Lib.hid (hM3.set (p + 3))
          clear hM3 hi3
          go_wp2_with fail
          first | go_end0 | refine bodyPost_ret (results_none rfl _ _ _) rfl ?_
          rw [HX.out]
          exact ⟨rfl, HM3.out⟩
        | false =>
          rw [h3] at hi3
          have HI2 := Lib.hid (fun (w3 : World) (hB3 : Below W2.heap.size W2 w3) => is_any (HM2.out.on hB3).1 hp [45, 45] (by decide))
          go_wp2_with fail
          refine hi3.mono ?_
          rintro e w3 ⟨rfl, hB3⟩
          have hi2 := HI2.out w3 hB3
          have hM3 := HM2.out.on hB3
          have HM3 := Lib.hid hM3
          clear hM3 hi3 HI2 hB3 HM2
          have h22 : ([45, 45] : List UInt8).map (fun c => (c.toNat : Int)) = [45, 45] := rfl
          rw [h22] at hi2
          cases h2 : wdAt s p [45, 45] with
          | true =>
            rw [h2] at hi2
            have hx : cmtX s at_ = .bad 140 p := by
              rw [HC.out, cmtF_end h2]
              rw [wd_three s p h2] at h3
              rw [if_neg (of_decide_eq_false h3)]
            have HX := Lib.hid hx
            clear hx h3 h2
            go_wp2_with fail
            refine hi2.mono ?_
            rintro e w4 ⟨rfl, hB4⟩
            have hM4 := HM3.out.on hB4
            have d1 := hM4.1.cell1
            have hwf := wrong_first hM4.1 140 (p : Int)
            have HM5 := Lib.hid (show ScnM cb s 140 (p : Int) c4 c5 c6 c7 w p ((w4.setCell ⟨cb, 2, none⟩ (.int .i64 140)).setCell ⟨cb, 3, none⟩ (.int .i64 (p : Int))) from ⟨hM4.1.mark 140 (p : Int), (hM4.2.setCell 2 (.int .i64 140)).setCell 3 (.int .i64 (p : Int))⟩)
            clear hM4 hi2 hB4
            go_wp2_with fail
            refine hwf.mono ?_
            rintro e w' ⟨rfl, rfl⟩
            clear hwf
            go_wp2_with fail
            go_roundg 0
            case rel => exact .inr ⟨140, p, p, by decide, hp, HX.out, HM5.out⟩
            case measure => have := HG.out; omega
          | false =>
            rw [h2] at hi2
            have HH2 := Lib.hid h2
            clear h3 h2
            have hfm := fun W => rForm_in s p (by omega) HLT.out W
            rw [formS_wd] at hfm
            replace hfm : ∀ W, Calls Tryz.prog 49 #[.string s, .int .i64 (p : Int)] W fun e w' => e = .returned (.tuple #[.int .i32 (rn s p), .int .i64 (wd s p)]) ∧ Below W.heap.size W w' := fun W => (hfm W).mono fun e w' h => ⟨h.1, h.2 ▸ Below.refl _ _⟩
            have hwd := wd_pos s p HLT.out
            have hin := wd_in s p HLT.out
            have hgo : rChar (rn s p) = true → cmtX s at_ = cmtF s g (p + wd s p) := fun hr => HC.out.trans (cmtF_go HH2.out hr)
            have hno : rChar (rn s p) = false → cmtX s at_ = .bad 140 p := fun hr => HC.out.trans (cmtF_bad HH2.out hr)
            obtain ⟨n, hn⟩ : ∃ n, wd s p = n := ⟨_, rfl⟩
            obtain ⟨r, hr⟩ : ∃ r, rn s p = r := ⟨_, rfl⟩
            rw [hn, hr] at hfm
            rw [hn] at hwd hin
            rw [hr, hn] at hgo
            rw [hr] at hno
            have HGO := Lib.hid hgo; have HNO := Lib.hid hno
            have hch := fun W => rChar_any r W
            have f1 : IntKind.i64.wrap ((p : Int) + (n : Int)) = (p : Int) + (n : Int) := by rw [IntWalk.i64_in _ (by omega)]
            have e1 : ((p + n : Nat) : Int) = (p : Int) + (n : Int) := by omega
            have HE1 := Lib.hid e1
            clear hgo hno hn hr e1
            go_wp2_with fail
            refine hi2.mono ?_
            rintro e W5 ⟨rfl, hB5⟩
            have hM5 := HM3.out.on hB5
            have hSd : W5.drew.cell? ⟨cb, 0, none⟩ = some (Value.string s) ∧ W5.drew.cell? ⟨cb, 1, none⟩ = some (Value.int .i64 (p : Int)) ∧ Below W5.heap.size W5 W5.drew := ⟨hM5.1.cell0, hM5.1.cell1, (Below.refl _ _).drew⟩
            have HM5 := Lib.hid hM5
            clear hM5 hB5 hi2 HM3
            go_upto_region 2 with fail
            refine wp_region_held_drew (S := fun w' => w'.cell? ⟨cb, 0, none⟩ = some (Value.string s) ∧ w'.cell? ⟨cb, 1, none⟩ = some (Value.int .i64 (p : Int)) ∧ Below W5.heap.size W5 w') (by kernel_rfl) (hSd) (fun hHeld => ?_)
            refine tkH 0 hHeld ?_
            refine tkH 1 hHeld ?_
            refine tkH 2 hHeld ?_
            refine tkH 3 hHeld ?_
            refine tkH 4 hHeld ?_
            refine tkH 5 hHeld ?_
            refine tkH 6 hHeld ?_
            refine tkH 7 hHeld ?_
            refine wpAnyH_ready (rs := [8]) (by kernel_rfl) (by simp) ?_
            refine AllReadyH.cons rfl (fun K hK => ?_) AllReadyH.nil
            go_simp
            go_wp2_with (go_at_call 49; refine (hfm _).mono ?_; rintro e wy ⟨rfl, hBy⟩; have hBw : Below W5.heap.size W5 wy := (Below.refl _ _).drew.trans (hBy.mono (Nat.le_refl _)); have hMy := HM5.out.on hBw; have hSy : wy.cell? ⟨cb, 0, none⟩ = some (Value.string s) ∧ wy.cell? ⟨cb, 1, none⟩ = some (Value.int .i64 (p : Int)) ∧ Below W5.heap.size W5 wy := ⟨hMy.1.cell0, hMy.1.cell1, hBw⟩)
            refine hK.out _ _ (hSy) (fun hHeld => ?_)
            clear hK K
            refine tkH 9 hHeld ?_
            refine tkH 10 hHeld ?_
            refine tkH 11 hHeld ?_
            refine tkH 12 hHeld ?_
            refine tkH 13 hHeld ?_
            refine wpAnyH_done (by kernel_rfl) ?_ _
            have HMY := Lib.hid hMy
            clear hHeld hSy hSd hMy hBy hBw hfm
            cases hrc : rChar r with
            | true =>
              rw [hrc] at hch
              have HX := Lib.hid (HGO.out hrc)
              clear hrc
              have d1 := HMY.out.1.cell1
              have d0 := freeH HMY.out.1 1
              have hM6 := HMY.out.set (p + n)
              rw [HE1.out] at hM6
              have HM6 := Lib.hid hM6
              clear hM6
              go_wp2_with fail
              refine (hch _).mono ?_
              rintro e w' ⟨rfl, rfl⟩
              go_wp2_with fail
              go_roundg (s.size + 5 - (p + n))
              case rel => exact .inl ⟨p + n, g, by omega, by have := HG.out; omega, hin, by have := HG.out; omega, HX.out, HM6.out⟩
              case measure => have := HG.out; omega
            | false =>
              rw [hrc] at hch
              have HX := Lib.hid (HNO.out hrc)
              clear hrc
              have d1 := HMY.out.1.cell1
              have hwf := wrong_first HMY.out.1 140 (p : Int)
              have hM6 : ScnM cb s 140 (p : Int) c4 c5 c6 c7 w p ((wy.setCell ⟨cb, 2, none⟩ (.int .i64 140)).setCell ⟨cb, 3, none⟩ (.int .i64 (p : Int))) := ⟨HMY.out.1.mark 140 (p : Int), (HMY.out.2.setCell 2 (.int .i64 140)).setCell 3 (.int .i64 (p : Int))⟩
              have HM6 := Lib.hid hM6
              clear hM6
              go_wp2_with fail
              refine (hch _).mono ?_
              rintro e w' ⟨rfl, rfl⟩
              go_wp2_with fail
              refine hwf.mono ?_
              rintro e w6 ⟨rfl, hw6⟩
              have hM6 := HM6.out
              rw [hw6] at hM6
              have e1 := hM6.1.cell1
              have e0 := freeH hM6.1 1
              have hM7 := hM6.set (p + n)
              rw [HE1.out] at hM7
              have HM7 := Lib.hid hM7
              clear hM7 hM6 hw6 hwf d1 HM6
              go_wp2_with fail
              go_roundg 0
              case rel => exact .inr ⟨140, p, p + n, by decide, hin, HX.out, HM7.out⟩
              case measure => have := HG.out; omega
      · obtain rfl : p = s.size := by omega
        have hx : cmtX s at_ = .bad 140 s.size := by
          rw [HC.out]
          have hr := rn_end s s.size (Nat.le_refl _)
          have h2 : wdAt s s.size [45, 45] = false := by
            simp only [wdAt]
            rw [bt_end s (Nat.le_refl _)]
            rfl
          exact cmtF_bad h2 hr
        have HX := Lib.hid hx
        clear hx hlt
        go_wp2_with fail
        refine hbd.mono ?_
        rintro e w' ⟨rfl, rfl⟩
        go_upto_region 6 with fail
        refine wp_region_held_drew (S := fun w' => w'.cell? ⟨cb, 0, none⟩ = some (Value.string s) ∧ w'.cell? ⟨cb, 1, none⟩ = some (Value.int .i64 (s.size : Int)) ∧ Below wr.heap.size wr w') (by kernel_rfl) (hSd) (fun hHeld => ?_)
        refine tkH 0 hHeld ?_
        refine tkH 1 hHeld ?_
        refine tkH 2 hHeld ?_
        refine tkH 3 hHeld ?_
        refine tkH 4 hHeld ?_
        refine tkH 5 hHeld ?_
        refine tkH 6 hHeld ?_
        refine tkH 7 hHeld ?_
        refine tkH 8 hHeld ?_
        refine tkH 9 hHeld ?_
        refine tkH 10 hHeld ?_
        refine wpAnyH_done (by kernel_rfl) ?_ _
        have hM2 := HM.out.on hSd.2.2
        generalize wr.drew = W2 at *
        have d1 := hM2.1.cell1
        have hwf := wrong_first hM2.1 140 (s.size : Int)
        have HM5 := Lib.hid (show ScnM cb s 140 (s.size : Int) c4 c5 c6 c7 w s.size ((W2.setCell ⟨cb, 2, none⟩ (.int .i64 140)).setCell ⟨cb, 3, none⟩ (.int .i64 (s.size : Int))) from ⟨hM2.1.mark 140 (s.size : Int), (hM2.2.setCell 2 (.int .i64 140)).setCell 3 (.int .i64 (s.size : Int))⟩)
        clear hHeld hSd hM2 hbd
        go_wp2_with fail
        refine hwf.mono ?_
        rintro e w' ⟨rfl, rfl⟩
        clear hwf
        go_wp2_with fail
        go_roundg 0
        case rel => exact .inr ⟨140, s.size, s.size, by decide, Nat.le_refl _, HX.out, HM5.out⟩
        case measure => have := HG.out; omega
    · have hbd := bad_yes hM.1 he
      have HX := Lib.hid hc; have HM := Lib.hid hM; have HE := Lib.hid he
      clear hc hM he
      go_wp2_with fail
      refine hbd.mono ?_
      rintro e w' ⟨rfl, rfl⟩
      go_wp2_with fail
      first | go_end0 | skip
      rw [HX.out]
      exact ⟨HE.out, ⟨(), rfl⟩, q, hq, HM.out⟩
end
end Go.Proofs.YtnmpbphnfiiafaaGreatDoor
