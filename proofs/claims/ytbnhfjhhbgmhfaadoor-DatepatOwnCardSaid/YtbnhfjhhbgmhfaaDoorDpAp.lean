/-
  Patterns of dates: how far two skeletons are apart, the program's.
-/
import Derived.Test.YtbnhfjhhbgmhfaaDoorDpA
import Derived.BigRegion
namespace Go.Proofs.YtbnhfjhhbgmhfaaDoor
open Go.RowKit Go.PlainAid

theorem dR_none {a b : List PF} {r : Nat} (h1 : findR a r = none) (h2 : findR b r = none) : dR a b r = 0 := by unfold dR; rw [h1, h2]
theorem dR_left {a b : List PF} {r : Nat} {x : PF} (h1 : findR a r = some x) (h2 : findR b r = none) : dR a b r = 1000 := by unfold dR; rw [h1, h2]
theorem dR_right {a b : List PF} {r : Nat} {y : PF} (h1 : findR a r = none) (h2 : findR b r = some y) : dR a b r = 1000 := by unfold dR; rw [h1, h2]
theorem dR_both {a b : List PF} {r : Nat} {x y : PF} (h1 : findR a r = some x) (h2 : findR b r = some y) : dR a b r = 10 * max (x.2.1 - y.2.1) (y.2.1 - x.2.1) + (if wordsB r x.2.1 y.2.1 = true then 100 else 0) + (if x.1 = y.1 then 0 else 1) := by unfold dR; rw [h1, h2]
theorem dR_bd {a b : List PF} (ha : PSk a) (hb : PSk b) (r : Nat) : 0 ≤ dR a b r ∧ dR a b r ≤ 1000 := by
  cases h1 : findR a r with
  | none =>
    cases h2 : findR b r with
    | none => rw [dR_none h1 h2]; omega
    | some y => rw [dR_right h1 h2]; omega
  | some x =>
    cases h2 : findR b r with
    | none => rw [dR_left h1 h2]; omega
    | some y =>
      rw [dR_both h1 h2]
      have hx := ha.2 x (findR_some h1).1
      have hy := hb.2 y (findR_some h2).1
      split <;> split <;> omega
theorem apartN_bd {a b : List PF} (ha : PSk a) (hb : PSk b) : ∀ r : Nat, 0 ≤ apartN a b r ∧ apartN a b r ≤ 1000 * r
  | 0 => ⟨Int.le_refl _, Int.le_refl _⟩
  | r + 1 => by
    have ih := apartN_bd ha hb r
    have hd := dR_bd ha hb (r + 1)
    show 0 ≤ apartN a b r + dR a b (r + 1) ∧ apartN a b r + dR a b (r + 1) ≤ _
    push_cast
    omega

set_option maxRecDepth 100000 in
set_option maxHeartbeats 4000000 in
theorem apart_any (va vb : Value) (a b : List PF) (w : World) (hva : PFAt w va a) (hvb : PFAt w vb b) (ha : PSk a) (hb : PSk b) :
    Calls Tryd.prog 55 #[va, vb] w fun e w' => e = .returned (.int .i64 (apartL a b)) ∧ Below w.heap.size w w' := by
  have HA0 := Lib.hid hva
  have HB0 := Lib.hid hvb
  obtain ⟨aa, ca, rfl, hlena, hca⟩ := hva
  obtain ⟨ab, cb, rfl, hlenb, hcb⟩ := hvb
  have HCA := Lib.hid hca
  have HCB := Lib.hid hcb
  have kb := Blk.new w #[.int .i64 1] 3
  have hB0 := (Below.refl w.heap.size w).alloc (Nat.le_refl _) (.cells #[.int .i64 1] 3)
  have HK := Lib.hid kb; have HBW := Lib.hid hB0
  have HSA := Lib.hid ha; have HSB := Lib.hid hb
  clear hca hcb kb hB0 ha hb
  go_enter Tryd.func55, Tryd.ntmps55
  go_wp2_with fail
  go_loopg [5, 6] 13 (fun g s5 s6 wr => ∃ (r rb : Nat), r + g = 13 ∧ s5 = .int .i64 (apartN a b r) ∧ s6 = .pointer (some ⟨rb, 0, none⟩) ∧ Blk wr rb #[.int .i64 ((r : Int) + 1)] ∧ w.heap.size ≤ rb ∧ Below w.heap.size w wr)
  case atStart => exact ⟨0, w.heap.size, rfl, rfl, rfl, HK.out, Nat.le_refl _, HBW.out⟩
  case round =>
    obtain ⟨r, rb, hg, rfl, rfl, hk, hrb, hB⟩ := hrel
    have k0 := hk.cell 0
    simp at k0
    have kf := hk.free 0
    have klt := hk.lt
    have hzB := hB.size
    have hbd := apartN_bd HSA.out HSB.out r
    have hbd1 := dR_bd HSA.out HSB.out (r + 1)
    by_cases hr : r < 13
    · have hcl : ∀ (W0 : World), Below wr.heap.size wr W0 → ∀ (l : List PF) (W : World) (x : PF), x ∈ l → Below W0.heap.size W0 W → Calls Tryd.prog 73 (#[.agg #[.int .u8 x.1, .int .i64 x.2.1, .string x.2.2]] ++ #[.pointer (some ⟨rb, 0, none⟩)]) W fun e w' => e = .returned (.bool (rankB x.1 == r + 1)) ∧ Below W.heap.size W w' :=
        fun W0 h0 l W x _ hW => apart1_any x rb (r + 1) W (by have := cell_later (cell_later k0 h0) hW; rw [this]; rfl)
      have hia := idxf_any 73 #[.pointer (some ⟨rb, 0, none⟩)] (enters_of Tryd.func73 (by kernel_rfl) rfl) (.slice aa a.length ca) a (r + 1) wr (HA0.out.later hB) (fun W x hx hW => hcl wr (Below.refl _ _) a W x hx hW)
      have hib := fun W h0 => idxf_any 73 #[.pointer (some ⟨rb, 0, none⟩)] (enters_of Tryd.func73 (by kernel_rfl) rfl) (.slice ab b.length cb) b (r + 1) W (HB0.out.later (hB.trans (Below.mono h0 hzB))) (fun W1 x hx hW => hcl W h0 b W1 x hx hW)
      have HIB := Lib.hid hib
      have hrI : (r : Int) + 1 ≤ 13 := by omega
      have hst : apartN a b (r + 1) = apartN a b r + dR a b (r + 1) := rfl
      have HST := Lib.hid hst
      clear hcl hst hib
      go_wp2_with fail
      refine hia.mono ?_
      rintro e w1 ⟨⟨ka, rfl, hfa⟩, hB1⟩
      have HFA := Lib.hid hfa
      clear hfa hia
      go_wp2_with fail
      refine (HIB.out w1 hB1).mono ?_
      rintro e w2 ⟨⟨kb, rfl, hfb⟩, hB2⟩
      have hB3 := (hB.trans (hB1.mono hzB)).trans (hB2.mono (Nat.le_trans hzB hB1.size))
      have hk3 := (hk.on hB1).on hB2
      have k0 := hk3.cell 0
      simp at k0
      have kf := hk3.free 0
      have klt := hk3.lt
      have hzB3 := hB3.size
      have hnext : ∀ (W : World) (q : Nat), q = W.heap.size → Below w.heap.size w W → ∃ (rb' : Nat), (.pointer (some ⟨q, 0, none⟩) : Value) = .pointer (some ⟨rb', 0, none⟩) ∧ Blk (W.alloc (.cells #[.int .i64 ((r : Int) + 1 + 1)] 3)) rb' #[.int .i64 (((r + 1 : Nat) : Int) + 1)] ∧ w.heap.size ≤ rb' ∧ Below w.heap.size w (W.alloc (.cells #[.int .i64 ((r : Int) + 1 + 1)] 3)) :=
        fun W q hq hb => ⟨W.heap.size, by rw [hq], by have := Blk.new W #[.int .i64 ((r : Int) + 1 + 1)] 3; push_cast; exact this, hb.size, hb.alloc hb.size _⟩
      have HNX := Lib.hid hnext
      have hfa := HFA.out
      clear hnext hB hB1 hB2 hk
      rcases hfa with ⟨rfl, hna⟩ | ⟨na, hna, rfl, hxa⟩
      · rcases hfb with ⟨rfl, hnb⟩ | ⟨nb, hnb, rfl, hxb⟩
        · have hd := dR_none hna hnb
          have HD := Lib.hid hd
          clear hd hna hnb
          go_wp2_with fail
          go_roundg (gk - 1)
          case rel =>
            obtain ⟨rb', e1, e2, e3, e4⟩ := HNX.out _ _ rfl hB3
            exact ⟨r + 1, rb', by omega, by rw [HST.out, HD.out]; congr 1; omega, e1, e2, e3, e4⟩
          case measure => omega
        · have hd := dR_right hna hxb
          have HD := Lib.hid hd
          clear hd hna hxb
          go_wp2_with fail
          go_roundg (gk - 1)
          case rel =>
            obtain ⟨rb', e1, e2, e3, e4⟩ := HNX.out _ _ rfl hB3
            exact ⟨r + 1, rb', by omega, by rw [HST.out, HD.out], e1, e2, e3, e4⟩
          case measure => omega
      · rcases hfb with ⟨rfl, hnb⟩ | ⟨nb, hnb, rfl, hxb⟩
        · have hd := dR_left hxa hnb
          have HD := Lib.hid hd
          clear hd hxa hnb
          go_wp2_with fail
          go_roundg (gk - 1)
          case rel =>
            obtain ⟨rb', e1, e2, e3, e4⟩ := HNX.out _ _ rfl hB3
            exact ⟨r + 1, rb', by omega, by rw [HST.out, HD.out], e1, e2, e3, e4⟩
          case measure => omega
        · have hd := dR_both hxa hxb
          have HD := Lib.hid hd
          have hxs := PSk.rows HSA.out hna
          have hys := PSk.rows HSB.out hnb
          have hnaI : (0 : Int) ≤ na := by omega
          have hnal : (na : Int) < a.length := by omega
          have hnbI : (0 : Int) ≤ nb := by omega
          have hnbl : (nb : Int) < b.length := by omega
          obtain ⟨ga, offa, rfl, hga, p0, p1, p2⟩ := HCA.out na hna
          obtain ⟨gb, offb, rfl, hgb, q0, q1, q2⟩ := HCB.out nb hnb
          have a0 := (hB3.cell (p := ⟨ga, _, none⟩) hga).trans p0
          have a1 := (hB3.cell (p := ⟨ga, _, none⟩) hga).trans p1
          have a2 := (hB3.cell (p := ⟨ga, _, none⟩) hga).trans p2
          have b0 := (hB3.cell (p := ⟨gb, _, none⟩) hgb).trans q0
          have b1 := (hB3.cell (p := ⟨gb, _, none⟩) hgb).trans q1
          have b2 := (hB3.cell (p := ⟨gb, _, none⟩) hgb).trans q2
          generalize a[na] = x at *
          generalize b[nb] = y at *
          obtain ⟨xb, xc, xt⟩ := x
          obtain ⟨yb, yc, yt⟩ := y
          simp only at a0 a1 a2 b0 b1 b2 hxs hys HD
          have hga2 : ga < w2.heap.size := by omega
          have hgb2 : gb < w2.heap.size := by omega
          clear p0 p1 p2 q0 q1 q2 hd hxa hxb
          have hwd : ∀ W, Calls Tryd.prog 53 #[.int .i64 ((r : Int) + 1), .int .i64 xc, .int .i64 yc] W fun e w' => e = .returned (.bool (wordsB (r + 1) xc yc)) ∧ w' = W := fun W => by
            have h := words_any (r + 1) xc yc W
            push_cast at h
            exact h
          have hmx : 0 ≤ max (xc - yc) (yc - xc) ∧ max (xc - yc) (yc - xc) ≤ 63 := by omega
          cases hw : wordsB (r + 1) xc yc with
          | true =>
            rw [hw] at hwd
            by_cases hxy : xb = yb
            · have hxe : (xb != yb) = false := by simp [hxy]
              have hd2 : dR a b (r + 1) = 10 * max (xc - yc) (yc - xc) + 100 := by rw [HD.out, hw, if_pos rfl, if_pos hxy]; omega
              clear hw hxy
              have HD2 := Lib.hid hd2
              clear hd2
              go_upto_region 7 with fail
              go_region
              all_goals
                go_wp2_with fail
                refine (hwd _).mono ?_
                rintro e w3 ⟨rfl, rfl⟩
                go_wp2_with fail
                go_roundg (gk - 1)
                case rel =>
                  obtain ⟨rb', e1, e2, e3, e4⟩ := HNX.out _ (w2.heap.size + 1 + 1) (by simp) ((((hB3.alloc hzB3 _).alloc (by simp; omega) _).drew))
                  exact ⟨r + 1, rb', by omega, (by rw [HST.out, HD2.out]; try (first | rfl | (congr 1; omega))), e1, e2, e3, e4⟩
                case measure => omega
            · have hxe : (xb != yb) = true := by simpa using hxy
              have hd2 : dR a b (r + 1) = 10 * max (xc - yc) (yc - xc) + 100 + 1 := by rw [HD.out, hw, if_pos rfl, if_neg hxy]
              clear hw hxy
              have HD2 := Lib.hid hd2
              clear hd2
              go_upto_region 7 with fail
              go_region
              all_goals
                go_wp2_with fail
                refine (hwd _).mono ?_
                rintro e w3 ⟨rfl, rfl⟩
                go_wp2_with fail
                go_roundg (gk - 1)
                case rel =>
                  obtain ⟨rb', e1, e2, e3, e4⟩ := HNX.out _ (w2.heap.size + 1 + 1) (by simp) ((((hB3.alloc hzB3 _).alloc (by simp; omega) _).drew))
                  exact ⟨r + 1, rb', by omega, (by rw [HST.out, HD2.out]; try (first | rfl | (congr 1; omega))), e1, e2, e3, e4⟩
                case measure => omega
          | false =>
            rw [hw] at hwd
            by_cases hxy : xb = yb
            · have hxe : (xb != yb) = false := by simp [hxy]
              have hd2 : dR a b (r + 1) = 10 * max (xc - yc) (yc - xc) := by rw [HD.out, hw, if_neg (by decide : ¬ false = true), if_pos hxy]; omega
              clear hw hxy
              have HD2 := Lib.hid hd2
              clear hd2
              go_upto_region 7 with fail
              go_region
              all_goals
                go_wp2_with fail
                refine (hwd _).mono ?_
                rintro e w3 ⟨rfl, rfl⟩
                go_wp2_with fail
                go_roundg (gk - 1)
                case rel =>
                  obtain ⟨rb', e1, e2, e3, e4⟩ := HNX.out _ (w2.heap.size + 1 + 1) (by simp) ((((hB3.alloc hzB3 _).alloc (by simp; omega) _).drew))
                  exact ⟨r + 1, rb', by omega, (by rw [HST.out, HD2.out]; try (first | rfl | (congr 1; omega))), e1, e2, e3, e4⟩
                case measure => omega
            · have hxe : (xb != yb) = true := by simpa using hxy
              have hd2 : dR a b (r + 1) = 10 * max (xc - yc) (yc - xc) + 1 := by rw [HD.out, hw, if_neg (by decide : ¬ false = true), if_neg hxy]; omega
              clear hw hxy
              have HD2 := Lib.hid hd2
              clear hd2
              go_upto_region 7 with fail
              go_region
              all_goals
                go_wp2_with fail
                refine (hwd _).mono ?_
                rintro e w3 ⟨rfl, rfl⟩
                go_wp2_with fail
                go_roundg (gk - 1)
                case rel =>
                  obtain ⟨rb', e1, e2, e3, e4⟩ := HNX.out _ (w2.heap.size + 1 + 1) (by simp) ((((hB3.alloc hzB3 _).alloc (by simp; omega) _).drew))
                  exact ⟨r + 1, rb', by omega, (by rw [HST.out, HD2.out]; try (first | rfl | (congr 1; omega))), e1, e2, e3, e4⟩
                case measure => omega
    · have hrI : ¬ (r : Int) + 1 ≤ 13 := by omega
      have hre : r = 13 := by omega
      subst hre
      go_wp2_with fail
      go_ret
      exact ⟨rfl, hB⟩
end Go.Proofs.YtbnhfjhhbgmhfaaDoor
