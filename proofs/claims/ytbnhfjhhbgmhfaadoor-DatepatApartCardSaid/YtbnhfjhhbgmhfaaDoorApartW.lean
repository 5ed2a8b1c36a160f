/-
  The walk of DatepatApart.
-/
import Derived.Test.YtbnhfjhhbgmhfaaDoorDpB
namespace Go.Proofs.YtbnhfjhhbgmhfaaDoor
open Go.RowKit Go.PlainAid

theorem skel_size (s : ByteArray) : (printT (skel s).1).size ≤ 1000000000000000 := by
  have h := sk_size (skel_sk s) (skel s).1.length (Nat.le_refl _)
  rw [List.take_length] at h
  have := (skel_sk s).1
  omega
theorem apartL_bd (a b : ByteArray) : 0 ≤ apartL (skel a).1 (skel b).1 := (apartN_bd (skel_sk a) (skel_sk b) 13).1

set_option maxRecDepth 100000 in
set_option maxHeartbeats 4000000 in
theorem datepatApart_walk (a b : ByteArray) (w : World) (hsa : a.size ≤ 140737488351232) (hsb : b.size ≤ 140737488351232) (hG : Gl w) :
    Calls Tryd.prog 9 #[.string a, .string b] w fun e w' => e = .returned (.bool true) ∧ Below w.heap.size w w' := by
  have hp := fun W => apartS_any a b W (by omega) (by omega)
  have hq := fun W => apartS_any b a W (by omega) (by omega)
  have hs1 := fun W => skelS_any a W (by omega)
  have hs2 := fun W => skelS_any b W (by omega)
  have hs3 := fun W => skelS_any (printT (skel a).1) W (skel_size a)
  have hra : dpApart a b = if (skel a).2.1 = 0 ∧ (skel b).2.1 = 0 then (apartL (skel a).1 (skel b).1, 0) else (0, 272) := rfl
  have hrb : dpApart b a = if (skel b).2.1 = 0 ∧ (skel a).2.1 = 0 then (apartL (skel b).1 (skel a).1, 0) else (0, 272) := rfl
  by_cases ha : (skel a).2.1 = 0
  · by_cases hb : (skel b).2.1 = 0
    · rw [if_pos ⟨ha, hb⟩] at hra
      rw [if_pos ⟨hb, ha⟩] at hrb
      have hc : apartL (skel b).1 (skel a).1 = apartL (skel a).1 (skel b).1 := apartN_comm _ _ 13
      rw [hc] at hrb
      have hz := apart_zero ha hb
      have h0 := apartL_bd a b
      obtain ⟨ia, za⟩ := skel_inc ha
      have hbk := skel_back ia za
      rw [hra] at hp
      rw [hrb] at hq
      rw [hbk] at hs3
      simp only at hs3
      generalize apartL (skel a).1 (skel b).1 = D at *
      generalize printT (skel a).1 = X at *
      generalize printT (skel b).1 = Y at *
      generalize (skel a).2.1 = E1 at *
      generalize (skel b).2.1 = E2 at *
      generalize (skel a).2.2 = A1 at *
      generalize (skel b).2.2 = A2 at *
      have hzz : (D == 0) = (X.toList == Y.toList) := by
        have hxy : X = Y ↔ X.toList = Y.toList := ⟨fun h => by rw [h], fun h => ByteArray.ext (Array.toList_inj.1 (by rw [← Lib.toList_data, ← Lib.toList_data]; exact h))⟩
        rw [hxy] at hz
        by_cases hd : D = 0
        · have := hz.1 hd
          simp [hd, this]
        · have h2 : ¬ X.toList = Y.toList := fun h => hd (hz.2 h)
          rw [show (D == 0) = false by simpa using hd, show (X.toList == Y.toList) = false by simpa using h2]
      have HZ := Lib.hid hzz
      clear hra hrb hc hz ia za hbk ha hb hzz
      go_enter Tryd.func9, Tryd.ntmps9
      go_wp2_with fail
      refine (wakes_any _ hG).mono ?_
      rintro e w0 ⟨rfl, hB0⟩
      go_wp2_with fail
      refine (hp _).mono ?_
      rintro e w1 ⟨rfl, hB1⟩
      go_wp2_with fail
      refine (hq _).mono ?_
      rintro e w2 ⟨rfl, hB2⟩
      have hC2 := (hB0.trans (hB1.mono hB0.size)).trans (hB2.mono (Nat.le_trans hB0.size hB1.size))
      clear hp hq hB0 hB1 hB2
      go_wp2_with fail
      refine (hs1 _).mono ?_
      rintro e w3 ⟨rfl, hB3⟩
      have hC3 := (hC2.trans (hB3.mono hC2.size)).alloc (Nat.le_trans hC2.size hB3.size) (.cells #[.int .i64 E1, .int .i64 A1] 26)
      clear hs1 hB3 hC2
      go_wp2_with fail
      refine (hs2 _).mono ?_
      rintro e w4 ⟨rfl, hB4⟩
      have hC4 := (hC3.trans (hB4.mono hC3.size)).alloc (Nat.le_trans hC3.size hB4.size) (.cells #[.int .i64 E2, .int .i64 A2] 26)
      clear hs2 hB4 hC3
      go_wp2_with fail
      refine (hs3 _).mono ?_
      rintro e w5 ⟨rfl, hB5⟩
      have hC5 := (hC4.trans (hB5.mono hC4.size)).alloc (Nat.le_trans hC4.size hB5.size) (.cells #[.int .i64 0, .int .i64 0] 26)
      clear hs3 hB5 hC4
      go_wp2_with fail
      all_goals first
        | (go_ret; exact ⟨rfl, hC5⟩)
        | (rename_i h; exact absurd HZ.out h)
    · rw [if_neg (fun h => hb h.2)] at hra
      rw [if_neg (fun h => hb h.1)] at hrb
      rw [hra] at hp
      rw [hrb] at hq
      clear hra hrb hs3
      generalize printT (skel a).1 = X at *
      generalize printT (skel b).1 = Y at *
      generalize (skel a).2.1 = E1 at *
      generalize (skel b).2.1 = E2 at *
      generalize (skel a).2.2 = A1 at *
      generalize (skel b).2.2 = A2 at *
      have hbI : (E2 != 0) = true := by simpa using hb
      have haI : (E1 != 0) = false := by simp [ha]
      clear ha hb
      go_enter Tryd.func9, Tryd.ntmps9
      go_wp2_with fail
      refine (wakes_any _ hG).mono ?_
      rintro e w0 ⟨rfl, hB0⟩
      go_wp2_with fail
      refine (hp _).mono ?_
      rintro e w1 ⟨rfl, hB1⟩
      go_wp2_with fail
      refine (hq _).mono ?_
      rintro e w2 ⟨rfl, hB2⟩
      have hC2 := (hB0.trans (hB1.mono hB0.size)).trans (hB2.mono (Nat.le_trans hB0.size hB1.size))
      clear hp hq hB0 hB1 hB2
      go_wp2_with fail
      refine (hs1 _).mono ?_
      rintro e w3 ⟨rfl, hB3⟩
      have hC3 := (hC2.trans (hB3.mono hC2.size)).alloc (Nat.le_trans hC2.size hB3.size) (.cells #[.int .i64 E1, .int .i64 A1] 26)
      have sp := Blk.new w3 #[.int .i64 E1, .int .i64 A1] 26
      clear hs1 hB3 hC2
      go_wp2_with fail
      refine (hs2 _).mono ?_
      rintro e w4 ⟨rfl, hB4⟩
      have hC4 := (hC3.trans (hB4.mono hC3.size)).alloc (Nat.le_trans hC3.size hB4.size) (.cells #[.int .i64 E2, .int .i64 A2] 26)
      have sp4 := sp.on hB4
      have hlt := sp4.lt
      have c0 := sp4.cell 0
      simp at c0
      clear hs2 hB4 hC3
      go_wp2_with fail
      go_ret
      exact ⟨rfl, hC4⟩
  · rw [if_neg (fun h => ha h.1)] at hra
    rw [if_neg (fun h => ha h.2)] at hrb
    rw [hra] at hp
    rw [hrb] at hq
    clear hra hrb hs3
    generalize printT (skel a).1 = X at *
    generalize printT (skel b).1 = Y at *
    generalize (skel a).2.1 = E1 at *
    generalize (skel b).2.1 = E2 at *
    generalize (skel a).2.2 = A1 at *
    generalize (skel b).2.2 = A2 at *
    have haI : (E1 != 0) = true := by simpa using ha
    clear ha
    go_enter Tryd.func9, Tryd.ntmps9
    go_wp2_with fail
    refine (wakes_any _ hG).mono ?_
    rintro e w0 ⟨rfl, hB0⟩
    go_wp2_with fail
    refine (hp _).mono ?_
    rintro e w1 ⟨rfl, hB1⟩
    go_wp2_with fail
    refine (hq _).mono ?_
    rintro e w2 ⟨rfl, hB2⟩
    have hC2 := (hB0.trans (hB1.mono hB0.size)).trans (hB2.mono (Nat.le_trans hB0.size hB1.size))
    clear hp hq hB0 hB1 hB2
    go_wp2_with fail
    refine (hs1 _).mono ?_
    rintro e w3 ⟨rfl, hB3⟩
    have hC3 := (hC2.trans (hB3.mono hC2.size)).alloc (Nat.le_trans hC2.size hB3.size) (.cells #[.int .i64 E1, .int .i64 A1] 26)
    have sp := Blk.new w3 #[.int .i64 E1, .int .i64 A1] 26
    clear hs1 hB3 hC2
    go_wp2_with fail
    refine (hs2 _).mono ?_
    rintro e w4 ⟨rfl, hB4⟩
    have hC4 := (hC3.trans (hB4.mono hC3.size)).alloc (Nat.le_trans hC3.size hB4.size) (.cells #[.int .i64 E2, .int .i64 A2] 26)
    have sp4 := sp.on hB4
    have hlt := sp4.lt
    have c0 := sp4.cell 0
    simp at c0
    clear hs2 hB4 hC3
    go_wp2_with fail
    go_ret
    exact ⟨rfl, hC4⟩
end Go.Proofs.YtbnhfjhhbgmhfaaDoor
