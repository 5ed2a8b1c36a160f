/-
  The walks of dec.parts and dec.Operands.
-/
import Derived.Test.YtgccppilhbannaaDoorDecX
import Derived.Test.YtgccppilhbannaaDoorDecL
import Derived.Test.YtgccppilhbannaaDoorDecY
import Derived.Test.YtgccppilhbannaaDoorBlk
namespace Go.Proofs.YtgccppilhbannaaDoor
open Go.RowKit Go.PlainAid

theorem partS_not {ds : ByteArray} {k : Nat} (h : k ≤ ds.size) : partS ds k = ds := by
  unfold partS
  rw [show k - ds.size = 0 by omega]
  exact ext_list (by rw [app_list]; rfl)
set_option maxRecDepth 100000 in
set_option maxHeartbeats 1000000 in
theorem parts_any (neg : Bool) (ds : ByteArray) (k : Nat) (w : World) (h1 : ds.size ≤ 1000000) (h2 : k ≤ 1000000) :
    Calls Tryd.prog 52 #[.agg #[.bool neg, .string ds, .int .i64 k]] w fun e w' => e = .returned (.tuple #[.string (wholeT ds k), .string (behindT ds k)]) ∧ Below w.heap.size w w' := by
  have hB0 := (Below.refl w.heap.size w).alloc (Nat.le_refl _) (.cells #[.bool neg, .string ds, .int .i64 k] 23)
  have hd0 := Dec3.new w neg ds k
  have hzs := zeros_size
  have HW := Lib.hid (show wholeT ds k = (partS ds k).extract 0 ((partS ds k).size - k) from rfl)
  have HB := Lib.hid (show behindT ds k = (partS ds k).extract ((partS ds k).size - k) (partS ds k).size from rfl)
  go_enter Tryd.func52, Tryd.ntmps52
  go_upto_if 14 with fail
  have hd0' := hd0
  generalize hW0 : w.alloc (.cells #[.bool neg, .string ds, .int .i64 k] 23) = W0 at *
  have HW0 := Lib.hid hW0; clear hW0
  go_cut [4] (fun s4 wx => s4 = .string (partS ds k) ∧ Below W0.heap.size W0 wx)
  case first =>
    by_cases hn : ds.size < k
    · have HL := Lib.hid (show partS ds k = zeros (k - ds.size) ++ ds from rfl)
      go_wp2_with fail
      refine (repeat_int _ _ (by omega) (by omega)).mono ?_
      rintro e w2 ⟨rfl, hB2⟩
      rw [show ((k : Int) - (ds.size : Int)).toNat = k - ds.size by omega]
      go_wp2_with fail
      go_meet
      case rel => exact ⟨by rw [HL.out], hB2⟩
    · have HL := Lib.hid (partS_not (ds := ds) (k := k) (by omega))
      go_wp2_with fail
      go_meet
      case rel => exact ⟨by rw [HL.out], Below.refl _ _⟩
  case rest =>
    obtain ⟨rfl, hB2⟩ := hcut
    obtain ⟨d0, d1, d2⟩ := hd0.on hB2
    have hsz := partS_size ds k
    have hBw := hB0.trans (hB2.mono hB0.size)
    clear hd0 hd0' hB0 hB2 hzs
    generalize partS ds k = S at *
    have h5 : k ≤ S.size := by omega
    have h6 : S.size ≤ 1000000 := by omega
    clear hsz
    have e1 : IntKind.i64.wrap ((S.size : Int) - k) = S.size - k := IntWalk.i64_in _ (by omega)
    have e2 : 0 ≤ (S.size : Int) - k := by omega
    have e3 : ((S.size : Int) - k).toNat = S.size - k := by omega
    go_wp2_with fail
    go_quiet (fail)
    clear e1 e2 e3
    have hBN : Below w.heap.size w (wc.drewN nq) := below_drewN hBw nq
    go_wp2
    go_ret2
    exact ⟨by rw [HW.out, HB.out]; rfl, hBN⟩

set_option maxRecDepth 100000 in
set_option maxHeartbeats 2000000 in
theorem operands_yes (neg : Bool) (ds : ByteArray) (k : Nat) (w : World) (hr : rightB neg ds k = true) :
    Calls Tryd.prog 19 #[.agg #[.bool neg, .string ds, .int .i64 k]] w fun e w' => e = .returned (.tuple #[opsA ds k, .int .i64 0]) ∧ Below w.heap.size w w' := by
  have hchk := fun W => check_yes hr W
  obtain ⟨h1, h2, h3, h4, _, hd⟩ := of_decide_eq_true hr
  have hpa := fun W => parts_any neg ds k W (by omega) (by omega)
  have htr : ∀ W, Calls Tryd.prog 53 #[.string (behindT ds k), .string ⟨#[48]⟩] W fun e w' => e = .returned (.string (shortT ds k)) ∧ W = w' := fun W => (Tryd.strings_TrimRight_one (behindT ds k) 48 (by decide) W (by rw [behind_size]; omega)).mono fun _ _ ⟨a, b⟩ => ⟨a, b.symm⟩
  have hmI : ∀ W, Calls Tryd.prog 49 #[.bool false, .string (wholeT ds k), .int .i64 0] W fun e w' => e = .returned (decE (opI ds k)) ∧ Below W.heap.size W w' := fun W => by
    have h := made_any false (wholeT ds k) 0 W (whole_dig hd k)
    rw [(dval_parts hd k).1] at h
    exact h
  have hmF : ∀ W, Calls Tryd.prog 49 #[.bool false, .string (behindT ds k), .int .i64 0] W fun e w' => e = .returned (decE (opF ds k)) ∧ Below W.heap.size W w' := fun W => by
    have h := made_any false (behindT ds k) 0 W (behind_dig' hd k)
    rw [(dval_parts hd k).2] at h
    exact h
  have hmT : ∀ W, Calls Tryd.prog 49 #[.bool false, .string (shortT ds k), .int .i64 0] W fun e w' => e = .returned (decE (opT ds k)) ∧ Below W.heap.size W w' := fun W => by
    have h := made_any false (shortT ds k) 0 W (short_dig hd k)
    rw [dval_short hd] at h
    exact h
  have hs1 := behind_size ds k
  have hs2 : (shortT ds k).size = opW ds k := short_size hd k
  have hs3 : opW ds k ≤ k := by unfold opW; omega
  clear hr hd
  unfold opsA
  generalize wholeT ds k = T1 at *
  generalize behindT ds k = T2 at *
  generalize shortT ds k = T3 at *
  generalize opI ds k = rI at *
  generalize opF ds k = rF at *
  generalize opT ds k = rT at *
  generalize opW ds k = W0 at *
  go_enter Tryd.func19, Tryd.ntmps19
  go_wp2_with fail
  refine (hchk _).mono ?_
  rintro e w1 ⟨rfl, hB1⟩
  have ka := ((Blk.new w _ _).alloc _).on hB1
  have kb := (Blk.new' (w.alloc _) _ _ (w.heap.size + 1) (by simp)).on hB1
  have hBw1 := (((Below.refl w.heap.size w).alloc (Nat.le_refl _) _).alloc (by simp) _).trans (hB1.mono (by simp; omega))
  clear hB1
  have ca := ka.cell
  have fa := ka.free
  go_wp2_with fail
  refine (hpa _).mono ?_
  rintro e w2 ⟨rfl, hB2⟩
  have ka := ka.on hB2
  have kb := kb.on hB2
  have hBw2 := hBw1.trans (hB2.mono hBw1.size)
  clear hpa hchk ca fa hBw1 hB2
  go_wp2_with fail
  refine (htr _).mono ?_
  rintro e w' ⟨rfl, rfl⟩
  clear htr
  have ka' := ka.set 0 (.bool false)
  have kb' := kb.other w.heap.size 0 (.bool false) (by omega)
  have la := ka.lt
  have lb : w.heap.size + 1 < w2.heap.size := kb.lt
  have ca := ka.cell
  have fa := ka.free
  have ca' := ka'.cell
  go_wp2_with fail
  refine (hmI _).mono ?_
  rintro e w4 ⟨rfl, hB4⟩
  have kb := (kb'.alloc _).on hB4
  have kc := (Blk.new' (w2.setCell ⟨w.heap.size, 0, none⟩ (.bool false)) _ _ w2.heap.size (by simp)).on hB4
  have hBw4 := ((hBw2.setCell (p := ⟨w.heap.size, 0, none⟩) (Nat.le_refl _) (.bool false)).alloc (by simp; omega) _).trans (hB4.mono (by simp; omega))
  clear hmI hB4 ka ka' kb' ca fa ca'
  have cc := kc.cell
  have fc := kc.free
  go_wp2_with fail
  refine (hmF _).mono ?_
  rintro e w5 ⟨rfl, hB5⟩
  have kb := (((kb.other w2.heap.size 3 (.bool rI.1) (Nat.ne_of_lt lb)).other w2.heap.size 4 (.string rI.2.1) (Nat.ne_of_lt lb)).other w2.heap.size 5 (.int .i64 rI.2.2.1) (Nat.ne_of_lt lb)).on hB5
  have kc := (((kc.set 3 (.bool rI.1)).set 4 (.string rI.2.1)).set 5 (.int .i64 rI.2.2.1)).on hB5
  have hBw5 := (((hBw4.setCell (p := ⟨w2.heap.size, 3, none⟩) (by show w.heap.size ≤ w2.heap.size; omega) (.bool rI.1)).setCell (p := ⟨w2.heap.size, 4, none⟩) (by show w.heap.size ≤ w2.heap.size; omega) (.string rI.2.1)).setCell (p := ⟨w2.heap.size, 5, none⟩) (by show w.heap.size ≤ w2.heap.size; omega) (.int .i64 rI.2.2.1)).trans (hB5.mono (by have := hBw4.size; simp; omega))
  clear hmF hB5 cc fc
  have kc : Blk w5 w2.heap.size #[.bool false, .string ds, .int .i64 k, .bool rI.1, .string rI.2.1, .int .i64 rI.2.2.1, .bool false, .string ⟨#[]⟩, .int .i64 0, .bool false, .string ⟨#[]⟩, .int .i64 0, .int .i64 k, .int .i64 W0] := kc
  have cc := kc.cell
  have fc := kc.free
  go_wp2_with fail
  refine (hmT _).mono ?_
  rintro e w6 ⟨rfl, hB6⟩
  have kb := (((kb.other w2.heap.size 6 (.bool rF.1) (Nat.ne_of_lt lb)).other w2.heap.size 7 (.string rF.2.1) (Nat.ne_of_lt lb)).other w2.heap.size 8 (.int .i64 rF.2.2.1) (Nat.ne_of_lt lb)).on hB6
  have kc := (((kc.set 6 (.bool rF.1)).set 7 (.string rF.2.1)).set 8 (.int .i64 rF.2.2.1)).on hB6
  have hBw6 := (((hBw5.setCell (p := ⟨w2.heap.size, 6, none⟩) (by show w.heap.size ≤ w2.heap.size; omega) (.bool rF.1)).setCell (p := ⟨w2.heap.size, 7, none⟩) (by show w.heap.size ≤ w2.heap.size; omega) (.string rF.2.1)).setCell (p := ⟨w2.heap.size, 8, none⟩) (by show w.heap.size ≤ w2.heap.size; omega) (.int .i64 rF.2.2.1)).trans (hB6.mono (by have := hBw5.size; simp; omega))
  clear hmT hB6 cc fc
  have kc : Blk w6 w2.heap.size #[.bool false, .string ds, .int .i64 k, .bool rI.1, .string rI.2.1, .int .i64 rI.2.2.1, .bool rF.1, .string rF.2.1, .int .i64 rF.2.2.1, .bool false, .string ⟨#[]⟩, .int .i64 0, .int .i64 k, .int .i64 W0] := kc
  have cc := kc.cell
  have fc := kc.free
  have cb := kb.cell
  have fb := kb.free
  have kc' := ((kc.set 9 (.bool rT.1)).set 10 (.string rT.2.1)).set 11 (.int .i64 rT.2.2.1)
  have kc' : Blk _ w2.heap.size #[.bool false, .string ds, .int .i64 k, .bool rI.1, .string rI.2.1, .int .i64 rI.2.2.1, .bool rF.1, .string rF.2.1, .int .i64 rF.2.2.1, .bool rT.1, .string rT.2.1, .int .i64 rT.2.2.1, .int .i64 k, .int .i64 W0] := kc'
  have kb' := ((kb.other w2.heap.size 9 (.bool rT.1) (Nat.ne_of_lt lb)).other w2.heap.size 10 (.string rT.2.1) (Nat.ne_of_lt lb)).other w2.heap.size 11 (.int .i64 rT.2.2.1) (Nat.ne_of_lt lb)
  have hBw7 := ((hBw6.setCell (p := ⟨w2.heap.size, 9, none⟩) (by show w.heap.size ≤ w2.heap.size; omega) (.bool rT.1)).setCell (p := ⟨w2.heap.size, 10, none⟩) (by show w.heap.size ≤ w2.heap.size; omega) (.string rT.2.1)).setCell (p := ⟨w2.heap.size, 11, none⟩) (by show w.heap.size ≤ w2.heap.size; omega) (.int .i64 rT.2.2.1)
  go_upto_region 12 with fail
  clear cc fc cb fb
  generalize ((w6.setCell ⟨w2.heap.size, 9, none⟩ (.bool rT.1)).setCell ⟨w2.heap.size, 10, none⟩ (.string rT.2.1)).setCell ⟨w2.heap.size, 11, none⟩ (.int .i64 rT.2.2.1) = W7 at *
  have cc := kc'.cell
  have cb := kb'.cell
  have fb := kb'.free
  go_wp2_with fail
  have kr := ((((((((((((((kb'.set 0 (.bool false)).set 1 (.string ds)).set 2 (.int .i64 k)).set 3 (.bool rI.1)).set 4 (.string rI.2.1)).set 5 (.int .i64 rI.2.2.1)).set 6 (.bool rF.1)).set 7 (.string rF.2.1)).set 8 (.int .i64 rF.2.2.1)).set 9 (.bool rT.1)).set 10 (.string rT.2.1)).set 11 (.int .i64 rT.2.2.1)).set 12 (.int .i64 k)).set 13 (.int .i64 W0))
  simp only [List.setIfInBounds_toArray, List.set_cons_zero, List.set_cons_succ] at kr
  have cr := kr.cell
  clear cb fb cc
  refine bodyPost_ret (v := .tuple #[opsV ds k rI rF rT W0, .int .i64 0]) (by simp [results, Tryd.results19, go_sem, cr]) rfl ⟨rfl, ?_⟩
  repeat (refine Below.setCell ?_ (Nat.le_succ _) _)
  exact hBw7

set_option maxRecDepth 100000 in
set_option maxHeartbeats 2000000 in
theorem operands_no (neg : Bool) (ds : ByteArray) (sc : Int) (w : World) (hr : rightB neg ds sc = false) :
    Calls Tryd.prog 19 #[.agg #[.bool neg, .string ds, .int .i64 sc]] w fun e w' => e = .returned (.tuple #[opsV ⟨#[]⟩ 0 (false, ⟨#[]⟩, 0, 0) (false, ⟨#[]⟩, 0, 0) (false, ⟨#[]⟩, 0, 0) 0, .int .i64 2]) ∧ Below w.heap.size w w' := by
  have hchk := fun W => check_no hr W
  clear hr
  go_enter Tryd.func19, Tryd.ntmps19
  go_wp2_with fail
  refine (hchk _).mono ?_
  rintro e w1 ⟨rfl, hB1⟩
  have kb := (Blk.new' (w.alloc _) _ _ (w.heap.size + 1) (by simp)).on hB1
  have hBw1 := (((Below.refl w.heap.size w).alloc (Nat.le_refl _) _).alloc (by simp) _).trans (hB1.mono (by simp; omega))
  have cb := kb.cell
  have fb := kb.free
  go_wp2_with fail
  have kr := ((((((((((((((kb.set 0 (.bool false)).set 1 (.string ⟨#[]⟩)).set 2 (.int .i64 0)).set 3 (.bool false)).set 4 (.string ⟨#[]⟩)).set 5 (.int .i64 0)).set 6 (.bool false)).set 7 (.string ⟨#[]⟩)).set 8 (.int .i64 0)).set 9 (.bool false)).set 10 (.string ⟨#[]⟩)).set 11 (.int .i64 0)).set 12 (.int .i64 0)).set 13 (.int .i64 0))
  simp only [List.setIfInBounds_toArray, List.set_cons_zero, List.set_cons_succ] at kr
  have cr := kr.cell
  clear cb fb
  refine bodyPost_ret (v := .tuple #[opsV ⟨#[]⟩ 0 (false, ⟨#[]⟩, 0, 0) (false, ⟨#[]⟩, 0, 0) (false, ⟨#[]⟩, 0, 0) 0, .int .i64 2]) (by simp [results, Tryd.results19, go_sem, cr]) rfl ⟨rfl, ?_⟩
  repeat (refine Below.setCell ?_ (Nat.le_succ _) _)
  exact hBw1
end Go.Proofs.YtgccppilhbannaaDoor
