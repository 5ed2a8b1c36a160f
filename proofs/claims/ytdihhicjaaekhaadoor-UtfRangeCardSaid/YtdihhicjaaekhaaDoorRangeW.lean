/-
  The walk of the law UtfRange: texts are gone through just as Go's own range and conversions go.
-/
import Derived.Test.YtdihhicjaaekhaaDoorRows
import Derived.Test.YtdihhicjaaekhaaDoorUtfW
import Derived.Test.YtdihhicjaaekhaaDoorRangeP
import Derived.Lib.OthersKept
namespace Go.Proofs.YtdihhicjaaekhaaDoor
open Go.RowKit Go.PlainAid

theorem range_at (s : ByteArray) (k : Nat) (hk : k < s.size) (w : World) (hT : Tabs w) :
    Calls Tryd.prog 12 #[.string s, .int .i64 k] w fun e w' => e = .returned (.tuple #[.int .i32 (rn s k), .int .i64 (wd s k)]) ∧ Below w.heap.size w w' := by
  have c := at_any s k w hT
  have : formZ s k = formS s k := by unfold formZ; rw [if_neg (by omega)]; rfl
  rw [this, formS_wd] at c
  exact c

theorem kept_obj {w w' : World} {k : Nat} {o : Obj} (hb : Below w.heap.size w w') (hk : w.heap[k]? = some o) : w'.heap[k]? = some o :=
  (hb.block k (Array.getElem?_eq_some_iff.1 hk).1).trans hk
theorem iterPos_is {w : World} {k : Nat} {s : ByteArray} {p : Nat} (hk : w.heap[k]? = some (.stringIter s p)) : w.iterPos k = p := by unfold World.iterPos; rw [hk]
def RightI (t : ByteArray) (B : Bool) (pos : Nat) : Prop := (B = true → brk t 0 = brk t pos) ∧ (B = false → 0 ≤ brk t 0)

set_option maxHeartbeats 1000000 in
theorem utfRange_walk (s : ByteArray) (w : World) (hr : s.size ≤ 140737488351232) (hT : Tabs w) :
    Calls Tryd.prog 7 #[.string s] w fun e w' => e = .returned (.bool true) ∧ Below w.heap.size w w' := by
  go_enter Tryd.func7, Tryd.ntmps7
  go_wp2_with (go_at_call 11; refine (wakes_any _ hT).mono ?_; rintro e w1 ⟨rfl, hB1⟩)
  obtain ⟨t, ht⟩ : ∃ t, s.extract 0 (min (↑s.size) 8192 : Int).toNat = t := ⟨_, rfl⟩
  rw [ht]
  have hts : t.size ≤ 8192 := by rw [← ht]; simp; omega
  clear ht hr
  have h1 := hB1.size
  have HT := Lib.hid hT; clear hT
  go_loopw [3, 4] (fun r n wr => ∃ (pos acc : Nat) (B : Bool), r = .bool B ∧ n = .int .i64 acc ∧ acc + cnt t pos = cnt t 0 ∧ acc ≤ pos ∧ pos ≤ t.size ∧ RightI t B pos ∧ wr.heap[w1.heap.size]? = some (.stringIter t pos) ∧ Below w.heap.size w wr ∧ w1.heap.size < wr.heap.size) (fun _ _ wr => t.size - wr.iterPos w1.heap.size)
  case atStart => exact ⟨0, 0, true, rfl, rfl, by simp, Nat.le_refl _, Nat.zero_le _, ⟨fun _ => rfl, fun h => by cases h⟩, World.iter_heap w1 t 0, hB1.alloc h1 _, by simp [World.iter]⟩
  case round =>
    obtain ⟨pos, acc, B, rfl, rfl, hc, ha, hle, hI, hk, hB, hlt⟩ := hrel
    have HI := Lib.hid hI; clear hI
    have HC := Lib.hid hc; clear hc
    have HM := Lib.hid (iterPos_is hk)
    by_cases hp : pos < t.size
    · have hwd := wd_pos t pos hp
      have hin := wd_in t pos hp
      have hst := Lib.hid (cnt_step t pos hp)
      have hnx := fun ty => Lib.run_next_any_at (P := Tryd.prog) wr w1.heap.size t pos ty hk hp
      have hk2 := Lib.iterAt_heap wr w1.heap.size t pos (pos + (Utf8.decode t pos).2) hk
      have hB2 := Lib.below_iterAt hB h1 t (pos + (Utf8.decode t pos).2)
      have hz2 := Lib.iterAt_size wr w1.heap.size t (pos + (Utf8.decode t pos).2)
      have cA := range_at t pos hp (wr.iterAt w1.heap.size t (pos + (Utf8.decode t pos).2)) (HT.out.later hB2)
      have hbs := Lib.hid (brk_step t pos hp)
      generalize wr.iterAt w1.heap.size t (pos + (Utf8.decode t pos).2) = w2 at *
      by_cases hn : rn t pos < 0
      · obtain ⟨hd, hw1⟩ := (rn_broken t pos).1 hn
        have hq := rn_broke t pos hn
        have hw1' : (Utf8.decode t pos).2 = 1 := hw1
        rw [hd] at hnx
        rw [hq, hw1] at cA
        rw [hw1'] at hk2
        rw [hw1] at hst hin
        have hbp : RightI t B pos → 0 ≤ brk t 0 := fun h => by
          cases B with
          | true => rw [h.1 rfl, hbs.out, if_pos hn]; omega
          | false => exact h.2 rfl
        have HBP := Lib.hid (hbp HI.out); clear hbp
        cases B with
        | true =>
          have cK := fun W => check_any t W (by omega)
          have e1 : brk t 0 = pos := by rw [HI.out.1 rfl, hbs.out, if_pos hn]
          have e2 : spotV (brk t 0) = .agg #[.int .i64 6, .int .i64 pos] := by rw [e1]; exact if_pos (by omega)
          rw [e2] at cK
          clear e1 e2 hd hq hn hw1 hw1'
          go_wp2_with (first | (go_at_call 12; refine cA.mono ?_; rintro e w3 ⟨rfl, hB3⟩) | (go_at_call 37; refine (cK _).mono ?_; rintro e w4 ⟨rfl, hB4⟩))
          have k4 := kept_obj hB4 (kept_obj hB3 hk2)
          have b3 := hB2.trans (hB3.mono hB2.size)
          have z3 := hB3.size; have z4 := hB4.size
          go_roundw
          case rel => exact ⟨pos + 1, acc + 1, false, rfl, by go_num, by have := hst.out; have := HC.out; omega, by omega, hin, ⟨fun h => (by cases h), fun _ => HBP.out⟩, k4, b3.trans (hB4.mono b3.size), by omega⟩
          case measure => rw [iterPos_is k4, HM.out]; omega
        | false =>
          clear hd hq hn hw1 hw1'
          go_wp2_with (first | (go_at_call 12; refine cA.mono ?_; rintro e w3 ⟨rfl, hB3⟩))
          have k4 := kept_obj hB3 hk2
          have z3 := hB3.size
          go_roundw
          case rel => exact ⟨pos + 1, acc + 1, false, rfl, by go_num, by have := hst.out; have := HC.out; omega, by omega, hin, ⟨fun h => (by cases h), fun _ => HBP.out⟩, k4, hB2.trans (hB3.mono hB2.size), by omega⟩
          case measure => rw [iterPos_is k4, HM.out]; omega
      · have hq := rn_right t pos hn
        have hes := enc_size t pos hp hn
        have hno : ¬ ((Utf8.decode t pos).1 = 65533 ∧ wd t pos = 1) := fun h => hn ((rn_broken t pos).2 h)
        have hR : RightI t B pos → RightI t B (pos + wd t pos) := fun h => ⟨fun hb => by rw [h.1 hb, hbs.out, if_neg hn], h.2⟩
        have HR := Lib.hid (hR HI.out); clear hR hbs HI
        rw [hq] at cA
        clear hq hn
        have hwk : wd t pos = (Utf8.decode t pos).2 := rfl
        rw [← hwk] at hk2
        clear hwk
        generalize (Utf8.decode t pos).1 = c at *
        generalize wd t pos = n at *
        by_cases hc5 : c = 65533
        · have t1 : ((c : Int) == 65533) = true := by simp; omega
          have t2 : ((n : Int) == 1) = false := by simp; omega
          clear hc5 hno
          go_wp2_with (first | (go_at_call 12; refine cA.mono ?_; rintro e w3 ⟨rfl, hB3⟩))
          have k4 := kept_obj hB3 hk2
          have z3 := hB3.size
          go_roundw
          case rel => exact ⟨pos + n, acc + 1, B, rfl, by go_num, by have := hst.out; have := HC.out; omega, by omega, hin, HR.out, k4, hB2.trans (hB3.mono hB2.size), by omega⟩
          case measure => rw [iterPos_is k4, HM.out]; omega
        · have t1 : ((c : Int) == 65533) = false := by simp; omega
          clear hc5 hno
          go_wp2_with (first | (go_at_call 12; refine cA.mono ?_; rintro e w3 ⟨rfl, hB3⟩))
          have k4 := kept_obj hB3 hk2
          have z3 := hB3.size
          go_roundw
          case rel => exact ⟨pos + n, acc + 1, B, rfl, by go_num, by have := hst.out; have := HC.out; omega, by omega, hin, HR.out, k4, hB2.trans (hB3.mono hB2.size), by omega⟩
          case measure => rw [iterPos_is k4, HM.out]; omega
    · have hnx := fun ty => Lib.run_next_end_at (P := Tryd.prog) wr w1.heap.size t pos ty hk hp
      have hacc : acc = cnt t 0 := by have := cnt_end t pos (by omega); have := HC.out; omega
      have hbe : brk t pos = -1 := brk_end t pos (by omega)
      have cK := fun W => check_any t W (by omega)
      have cC := fun W => count_any t W (by omega)
      have hcv := fun W => conv_runes (P := Tryd.prog) W 9 37 21 t Tryd.underlying9 Tryd.underlying37 Tryd.underlying21 hts
      rw [← hacc] at cC hcv
      have HV := Lib.hid hcv; clear hcv
      cases B with
      | false =>
        have e2 : spotV (brk t 0) = .agg #[.int .i64 6, .int .i64 (brk t 0)] := if_pos (HI.out.2 rfl)
        rw [e2] at cK
        clear hacc hbe e2
        generalize brk t 0 = k at *
        go_wp2_with (first | (go_at_call 37; refine (cK _).mono ?_; rintro e w3 ⟨rfl, hB3⟩) | (go_at_call 14; refine (cC _).mono ?_; rintro e w4 ⟨rfl, hB4⟩))
        go_ret
        have b3 := hB.trans (hB3.mono hB.size)
        exact ⟨rfl, b3.trans (hB4.mono b3.size)⟩
      | true =>
        have hb0 : brk t 0 = -1 := by rw [HI.out.1 rfl, hbe]
        have e2 : spotV (brk t 0) = .agg #[.int .i64 0, .int .i64 0] := by rw [hb0]; rfl
        rw [e2] at cK
        have HB0 := Lib.hid hb0
        clear hacc hbe e2 hb0
        go_wp2_with (first | (go_at_call 37; refine (cK _).mono ?_; rintro e w3 ⟨rfl, hB3⟩))
        refine (cC _).mono ?_
        rintro e w4 ⟨rfl, hB4⟩
        obtain ⟨cap5, w5, hc5, hB5, hs5⟩ := HV.out w4
        have hs5' := hs5 HB0.out
        obtain ⟨cap6, w6, hc6, hB6, _⟩ := HV.out w5
        clear hs5
        go_wp2
        go_ret
        have b3 := hB.trans (hB3.mono hB.size)
        have b4 := b3.trans (hB4.mono b3.size)
        have b5 := b4.trans (hB5.mono b4.size)
        exact ⟨rfl, b5.trans (hB6.mono b5.size)⟩
end Go.Proofs.YtdihhicjaaekhaaDoor
