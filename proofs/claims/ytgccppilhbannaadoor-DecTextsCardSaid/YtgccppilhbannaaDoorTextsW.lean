/-
  The walk of DecTexts.
-/
import Derived.Test.YtgccppilhbannaaDoorDecL
import Derived.Test.YtgccppilhbannaaDoorDecJ
import Derived.Test.YtgccppilhbannaaDoorDecV
namespace Go.Proofs.YtgccppilhbannaaDoor
open Go.RowKit Go.PlainAid

theorem rRight_yes {neg : Bool} {ds : ByteArray} {sc : Int} {b : Bool} (hr : rightB neg ds sc = b) (w : World) :
    Calls Tryd.prog 16 #[.agg #[.bool neg, .string ds, .int .i64 sc]] w fun e w' => e = .returned (.bool b) ∧ Below w.heap.size w w' := by
  have h := rRight_any neg ds sc w
  rw [hr] at h
  exact h

set_option maxRecDepth 100000 in
set_option maxHeartbeats 2000000 in
theorem decTexts_walk (s : ByteArray) (neg : Bool) (ds : ByteArray) (sc : Int) (w : World) (hs : s.size ≤ 140737488351232) :
    Calls Tryd.prog 3 #[.string s, .agg #[.bool neg, .string ds, .int .i64 sc]] w fun e w' => e = .returned (.bool true) ∧ Below w.heap.size w w' := by
  have hd0 := Dec3.new w neg ds sc
  have hB0 := (Below.refl w.heap.size w).alloc (Nat.le_refl _) (.cells #[.bool neg, .string ds, .int .i64 sc] 23)
  have hp := fun W => parse_any s W (by omega)
  have hq := fun W => rParse_any s W (by omega)
  generalize parseP s = r at hp hq
  have hpr := fun W => print_any neg ds sc W
  go_enter Tryd.func3, Tryd.ntmps3
  go_wp2_with fail
  refine (wakes_any _).mono ?_
  rintro e w1 ⟨rfl, hB1⟩
  have hd1 := hd0.on hB1
  have hBw1 := hB0.trans (hB1.mono (by simp))
  clear hd0 hB0 hB1
  go_wp2_with fail
  refine (hp _).mono ?_
  rintro e w2 ⟨rfl, hB2⟩
  have hd2 := hd1.on hB2
  have hBw2 := hBw1.trans (hB2.mono hBw1.size)
  clear hd1 hBw1 hB2 hp
  go_wp2_with fail
  refine (hq _).mono ?_
  rintro e w3 ⟨rfl, hB3⟩
  have hd3 := ((hd2.alloc _).alloc _).on hB3
  have hg3 := ((Dec3.new w2 r.1 r.2.1 r.2.2.1).alloc (.cells #[.int .i64 r.2.2.2.1, .int .i64 r.2.2.2.2] 27)).on hB3
  have hs3 := (Spot2.new (w2.alloc (.cells #[.bool r.1, .string r.2.1, .int .i64 r.2.2.1] 23)) r.2.2.2.1 r.2.2.2.2).on hB3
  have hz := hBw2.size
  have hBw3 : Below w.heap.size w w3 := ((hBw2.alloc hBw2.size _).alloc (by simp; omega) _).trans (hB3.mono (by simp; omega))
  have hz3 := hB3.size
  simp at hs3 hz3
  clear hd2 hBw2 hB3 hq
  obtain ⟨d0, d1, d2⟩ := id hd3
  have l0 := World.block_lt_of_cell? w3 ⟨w.heap.size, 0, none⟩ d0
  have l0' : w.heap.size < w3.heap.size + 1 := Nat.lt_succ_of_lt l0
  go_wp2_with fail
  refine (hpr _).mono ?_
  rintro e w4 ⟨rfl, hB4⟩
  have hd4 := ((hd3.alloc _).alloc _).on hB4
  have hg4 := ((hg3.alloc _).alloc _).on hB4
  have hs4 := ((hs3.alloc _).alloc _).on hB4
  have hw4 := ((Dec3.new w3 r.1 r.2.1 r.2.2.1).alloc (.cells #[.int .i64 r.2.2.2.1, .int .i64 r.2.2.2.2] 27)).on hB4
  have ht4 := (Spot2.new (w3.alloc (.cells #[.bool r.1, .string r.2.1, .int .i64 r.2.2.1] 23)) r.2.2.2.1 r.2.2.2.2).on hB4
  have hz := hBw3.size
  have hBw4 : Below w.heap.size w w4 := ((hBw3.alloc hBw3.size _).alloc (by simp; omega) _).trans (hB4.mono (by simp; omega))
  simp at ht4
  clear hd3 hg3 hs3 hBw3 hpr hB4 hz d0 d1 d2 l0 l0'
  obtain ⟨g0, g1, g2⟩ := hg4
  obtain ⟨s0, s1⟩ := hs4
  obtain ⟨x0, x1, x2⟩ := hw4
  obtain ⟨y0, y1⟩ := ht4
  obtain ⟨d0, d1, d2⟩ := id hd4
  cases hr : rightB neg ds sc with
  | false =>
    have hrr := fun W => rRight_yes hr W
    have hck := fun W => check_no hr W
    have HR := Lib.hid (show printR neg ds sc = (⟨#[]⟩, 2) by unfold printR; rw [hr]; rfl)
    clear hr
    rw [HR.out]
    go_wp2_with fail
    refine (hrr _).mono ?_
    rintro e w5 ⟨rfl, hB5⟩
    have hd5 := hd4.on hB5
    have hBw5 := hBw4.trans (hB5.mono hBw4.size)
    clear hd4 hBw4 hB5 hrr d0 d1 d2 g0 g1 g2 s0 s1 x0 x1 x2 y0 y1
    obtain ⟨d0, d1, d2⟩ := id hd5
    go_wp2_with fail
    refine (hck _).mono ?_
    rintro e w6 ⟨rfl, hB6⟩
    have hBw6 := hBw5.trans (hB6.mono hBw5.size)
    go_wp2
    go_ret
    exact ⟨rfl, hBw6⟩
  | true =>
    have hrr := fun W => rRight_yes hr W
    have hck := fun W => check_yes hr W
    have HR := Lib.hid (show printR neg ds sc = (printT neg ds sc, 0) by unfold printR; rw [hr]; rfl)
    obtain ⟨h1, h2, h3, h4, _, h6⟩ := of_decide_eq_true hr
    obtain ⟨k, rfl⟩ : ∃ k : Nat, sc = k := ⟨sc.toNat, by omega⟩
    have hrp := fun W => rPrint_any neg ds k W h6 (by omega) (by omega) (by omega)
    clear hr h6
    rw [HR.out]
    clear HR
    generalize printT neg ds k = T at *
    go_wp2_with fail
    refine (hrr _).mono ?_
    rintro e w5 ⟨rfl, hB5⟩
    have hd5 := hd4.on hB5
    have hBw5 := hBw4.trans (hB5.mono hBw4.size)
    clear hd4 hBw4 hB5 hrr d0 d1 d2 g0 g1 g2 s0 s1 x0 x1 x2 y0 y1
    obtain ⟨d0, d1, d2⟩ := id hd5
    go_wp2_with fail
    refine (hrp _).mono ?_
    rintro e w6 ⟨rfl, hB6⟩
    have hd6 := hd5.on hB6
    have hBw6 := hBw5.trans (hB6.mono hBw5.size)
    clear hd5 hBw5 hB6 d0 d1 d2
    obtain ⟨d0, d1, d2⟩ := id hd6
    go_wp2_with fail
    refine (hck _).mono ?_
    rintro e w7 ⟨rfl, hB7⟩
    have hBw7 := hBw6.trans (hB7.mono hBw6.size)
    go_wp2
    go_ret
    exact ⟨rfl, hBw7⟩
end Go.Proofs.YtgccppilhbannaaDoor
