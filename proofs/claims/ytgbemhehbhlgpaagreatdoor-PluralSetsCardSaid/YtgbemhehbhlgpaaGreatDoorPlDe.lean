/-
  Laws and contracts taken over from earlier texts (cut out by a program of this seat's own, slice.py), as far as this seat needs them.
-/
import Derived.Test.YtgbemhehbhlgpaaGreatDoorPlDd
namespace Go.Proofs.YtgbemhehbhlgpaaGreatDoor
section
open Go.RowKit Go.PlainAid
/-- The digits with so many noughts ahead that at least k digits stand there. -/
def partS (ds : ByteArray) (k : Nat) : ByteArray := zeros (k - ds.size) ++ ds

theorem partS_size (ds : ByteArray) (k : Nat) : (partS ds k).size = max k ds.size := by unfold partS; rw [ByteArray.size_append, zeros_size]; omega

theorem partS_dig {ds : ByteArray} (h : AllDig ds) (k : Nat) : AllDig (partS ds k) := pad_dig h _

theorem dval_partS (ds : ByteArray) (k : Nat) : dval (partS ds k) = dval ds := dval_pad _ _

def wholeT (ds : ByteArray) (k : Nat) : ByteArray := (partS ds k).extract 0 ((partS ds k).size - k)

def behindT (ds : ByteArray) (k : Nat) : ByteArray := (partS ds k).extract ((partS ds k).size - k) (partS ds k).size

def shortT (ds : ByteArray) (k : Nat) : ByteArray := ⟨(Lib.trimRightB (behindT ds k).data.toList 48).toArray⟩

theorem behind_size (ds : ByteArray) (k : Nat) : (behindT ds k).size = k := by
  unfold behindT
  rw [size_sub _ _ _ (Nat.le_refl _), partS_size]
  omega

theorem sub_dig {s : ByteArray} (h : AllDig s) (a b : Nat) (hb : b ≤ s.size) : AllDig (s.extract a b) := allDig_sub hb fun k _ h2 => h k (by omega)

theorem whole_dig {ds : ByteArray} (h : AllDig ds) (k : Nat) : AllDig (wholeT ds k) := sub_dig (partS_dig h k) _ _ (by omega)

theorem behind_dig' {ds : ByteArray} (h : AllDig ds) (k : Nat) : AllDig (behindT ds k) := sub_dig (partS_dig h k) _ _ (Nat.le_refl _)

theorem split_at (s : ByteArray) (j : Nat) : s.extract 0 j ++ s.extract j s.size = s := by
  apply ext_list
  rw [app_list, sub_list, sub_list, List.take_of_length_le (show s.data.toList.length ≤ s.size by rw [size_list]; omega)]
  simp

theorem dval_parts {ds : ByteArray} (h : AllDig ds) (k : Nat) : dval (wholeT ds k) = dval ds / 10 ^ k ∧ dval (behindT ds k) = dval ds % 10 ^ k := by
  have h1 : dval (wholeT ds k ++ behindT ds k) = dval ds := by
    unfold wholeT behindT
    rw [split_at, dval_partS]
  rw [dval_app, behind_size] at h1
  have h2 := dval_lt (behind_dig' h k)
  rw [behind_size] at h2
  have hp : 0 < 10 ^ k := Nat.pow_pos (by decide)
  constructor
  · rw [← h1, Nat.add_comm, Nat.add_mul_div_right _ _ hp, Nat.div_eq_of_lt h2, Nat.zero_add]
  · rw [← h1, Nat.add_comm, Nat.add_mul_mod_self_right, Nat.mod_eq_of_lt h2]

/-- The digits behind the point, the lowest first. -/
def lowB (ds : ByteArray) (k : Nat) : List Nat := (rowH ds k).take k

/-- How many noughts stand at a row's beginning. -/
def lz (l : List Nat) : Nat := (l.takeWhile (· == 0)).length

theorem lowB_length (ds : ByteArray) (k : Nat) : (lowB ds k).length = k := by
  unfold lowB
  rw [List.length_take, rowH_len, padL_length]
  omega

theorem lowB_eq (ds : ByteArray) (k : Nat) : lowB ds k = (dl (behindT ds k)).reverse := by
  have h1 : dl (behindT ds k) = (dl (partS ds k)).drop ((partS ds k).size - k) := by
    unfold behindT
    conv => lhs; unfold dl
    rw [sub_list, List.take_of_length_le (show (partS ds k).data.toList.length ≤ (partS ds k).size by rw [size_list]; omega), List.map_drop]
    rfl
  have h2 : (dl (partS ds k)).reverse = (dl ds).reverse ++ List.replicate (k - ds.size) 0 := by
    unfold partS
    rw [dl_app, dl_zeros, List.reverse_append, List.reverse_replicate]
  have h3 : ∀ (l : List Nat) (n : Nat), l.length = n → (l.drop (n - k)).reverse = l.reverse.take k := fun l n hn => by
    subst hn
    rw [List.take_reverse]
  rw [h1, h3 _ _ (dl_length _), h2]
  unfold lowB
  rw [rowH_eq]
  have h4 : (dl ds).reverse.length = ds.size := by rw [List.length_reverse, dl_length]
  rw [List.take_append, List.take_append, h4, List.take_replicate, List.take_replicate]
  congr 2
  omega

theorem short_list (ds : ByteArray) (k : Nat) : (shortT ds k).data.toList = ((behindT ds k).data.toList.reverse.dropWhile (· == 48)).reverse := by simp [shortT, Lib.trimRightB]

theorem short_dl {ds : ByteArray} (h : AllDig ds) (k : Nat) : (dl (shortT ds k)).reverse = (lowB ds k).drop (lz (lowB ds k)) := by
  have h0 : ∀ b ∈ (behindT ds k).data.toList.reverse, 48 ≤ b.toNat ∧ b.toNat ≤ 57 := fun b hb => allDig_mem.1 (behind_dig' h k) b (by simpa using hb)
  have key : ∀ l : List UInt8, (∀ b ∈ l, 48 ≤ b.toNat ∧ b.toNat ≤ 57) → (l.dropWhile (· == 48)).map (fun b => b.toNat - 48) = (l.map (fun b => b.toNat - 48)).drop (lz (l.map (fun b => b.toNat - 48))) := by
    intro l
    induction l with
    | nil => intro _; rfl
    | cons b l ih =>
      intro hl
      have hb := hl b (by simp)
      by_cases e : b = 48
      · subst e
        have : lz (List.map (fun b : UInt8 => b.toNat - 48) (48 :: l)) = lz (List.map (fun b : UInt8 => b.toNat - 48) l) + 1 := by simp [lz]
        rw [this]
        simp only [List.dropWhile_cons, beq_self_eq_true, ↓reduceIte, List.map_cons, List.drop_succ_cons]
        exact ih fun x hx => hl x (by simp [hx])
      · have hne : b.toNat - 48 ≠ 0 := fun h2 => e (UInt8.toNat_inj.1 (by show b.toNat = 48; omega))
        have : lz (List.map (fun b : UInt8 => b.toNat - 48) (b :: l)) = 0 := by simp [lz, hne]
        rw [this]
        simp [e]
  rw [lowB_eq]
  have h1 := key _ h0
  unfold dl at h1 ⊢
  rw [short_list, List.map_reverse, List.reverse_reverse, h1, List.map_reverse]

theorem short_size {ds : ByteArray} (h : AllDig ds) (k : Nat) : (shortT ds k).size = k - lz (lowB ds k) := by
  have h1 := congrArg List.length (short_dl h k)
  rw [List.length_reverse, dl_length, List.length_drop, lowB_length] at h1
  exact h1

theorem dval_short {ds : ByteArray} (h : AllDig ds) (k : Nat) : dval (shortT ds k) = rowval ((lowB ds k).drop (lz (lowB ds k))) := by
  unfold dval
  rw [short_dl h]

theorem short_dig {ds : ByteArray} (h : AllDig ds) (k : Nat) : AllDig (shortT ds k) := allDig_mem.2 fun b hb => by
  rw [short_list] at hb
  have h1 := (List.dropWhile_suffix (l := (behindT ds k).data.toList.reverse) (· == 48)).subset (List.mem_reverse.1 hb)
  exact allDig_mem.1 (behind_dig' h k) b (List.mem_reverse.1 h1)

def opI (ds : ByteArray) (k : Nat) : Bool × ByteArray × Int × Int := madeR false (dval ds / 10 ^ k) 0

def opF (ds : ByteArray) (k : Nat) : Bool × ByteArray × Int × Int := madeR false (dval ds % 10 ^ k) 0

def opT (ds : ByteArray) (k : Nat) : Bool × ByteArray × Int × Int := madeR false (rowval ((lowB ds k).drop (lz (lowB ds k)))) 0

def opW (ds : ByteArray) (k : Nat) : Nat := k - lz (lowB ds k)

abbrev opsV (ds : ByteArray) (k : Nat) (rI rF rT : Bool × ByteArray × Int × Int) (W : Nat) : Value :=
  .agg #[.bool false, .string ds, .int .i64 k, .bool rI.1, .string rI.2.1, .int .i64 rI.2.2.1, .bool rF.1, .string rF.2.1, .int .i64 rF.2.2.1, .bool rT.1, .string rT.2.1, .int .i64 rT.2.2.1, .int .i64 k, .int .i64 W]

abbrev opsA (ds : ByteArray) (k : Nat) : Value := opsV ds k (opI ds k) (opF ds k) (opT ds k) (opW ds k)

end
section
open Go.RowKit Go.PlainAid
theorem partS_not {ds : ByteArray} {k : Nat} (h : k ≤ ds.size) : partS ds k = ds := by
  unfold partS
  rw [show k - ds.size = 0 by omega]
  exact ext_list (by rw [app_list]; rfl)

set_option maxRecDepth 100000 in
set_option maxHeartbeats 1000000 in
theorem parts_any (neg : Bool) (ds : ByteArray) (k : Nat) (w : World) (h1 : ds.size ≤ 1000000) (h2 : k ≤ 1000000) :
    Calls Tryz.prog 55 #[.agg #[.bool neg, .string ds, .int .i64 k]] w fun e w' => e = .returned (.tuple #[.string (wholeT ds k), .string (behindT ds k)]) ∧ Below w.heap.size w w' := by
  have hB0 := (Below.refl w.heap.size w).alloc (Nat.le_refl _) (.cells #[.bool neg, .string ds, .int .i64 k] 23)
  have hd0 := Dec3.new w neg ds k
  have hzs := zeros_size
  have HW := Lib.hid (show wholeT ds k = (partS ds k).extract 0 ((partS ds k).size - k) from rfl)
  have HB := Lib.hid (show behindT ds k = (partS ds k).extract ((partS ds k).size - k) (partS ds k).size from rfl)
  go_enter Tryz.func55, Tryz.ntmps55
  go_upto_if 14 with fail
  have hd0' := hd0
  generalize hW0 : w.alloc (.cells #[.bool neg, .string ds, .int .i64 k] 23) = W0 at *
  have HW0 := Lib.hid hW0; clear hW0
  go_cut [4] (fun s4 wx => s4 = .string (partS ds k) ∧ Below W0.heap.size W0 wx)
  case first =>
    by_cases hn : ds.size < k
    · have HL := Lib.hid (show partS ds k = zeros (k - ds.size) ++ ds from rfl)
      go_wp2_with fail
      refine (repeat_int _ _ (by omega) (by omega)).mono ?_
      rintro e w2 ⟨rfl, hB2⟩
      rw [show ((k : Int) - (ds.size : Int)).toNat = k - ds.size by omega]
      go_wp2_with fail
      go_meet
      case rel => exact ⟨by rw [HL.out], hB2⟩
    · have HL := Lib.hid (partS_not (ds := ds) (k := k) (by omega))
      go_wp2_with fail
      go_meet
      case rel => exact ⟨by rw [HL.out], Below.refl _ _⟩
  case rest =>
    obtain ⟨rfl, hB2⟩ := hcut
    obtain ⟨d0, d1, d2⟩ := hd0.on hB2
    have hsz := partS_size ds k
    have hBw := hB0.trans (hB2.mono hB0.size)
    clear hd0 hd0' hB0 hB2 hzs
    generalize partS ds k = S at *
    have h5 : k ≤ S.size := by omega
    have h6 : S.size ≤ 1000000 := by omega
    clear hsz
    have e1 : IntKind.i64.wrap ((S.size : Int) - k) = S.size - k := IntWalk.i64_in _ (by omega)
    have e2 : 0 ≤ (S.size : Int) - k := by omega
    have e3 : ((S.size : Int) - k).toNat = S.size - k := by omega
    go_wp2_with fail
    go_quiet (fail)
    clear e1 e2 e3
    have hBN : Below w.heap.size w (wc.drewN nq) := bdN0 hBw nq
    go_wp2
    go_ret2
    exact ⟨by rw [HW.out, HB.out]; rfl, hBN⟩

set_option maxRecDepth 100000 in
set_option maxHeartbeats 2000000 in
theorem operands_yes (neg : Bool) (ds : ByteArray) (k : Nat) (w : World) (hr : rightB neg ds k = true) :
    Calls Tryz.prog 34 #[.agg #[.bool neg, .string ds, .int .i64 k]] w fun e w' => e = .returned (.tuple #[opsA ds k, .int .i64 0]) ∧ Below w.heap.size w w' := by
  have hchk := fun W => check_yes hr W
  obtain ⟨h1, h2, h3, h4, _, hd⟩ := of_decide_eq_true hr
  have hpa := fun W => parts_any neg ds k W (by omega) (by omega)
  have htr : ∀ W, Calls Tryz.prog 56 #[.string (behindT ds k), .string ⟨#[48]⟩] W fun e w' => e = .returned (.string (shortT ds k)) ∧ W = w' := fun W => (Tryz.strings_TrimRight_one (behindT ds k) 48 (by decide) W (by rw [behind_size]; omega)).mono fun _ _ ⟨a, b⟩ => ⟨a, b.symm⟩
  have hmI : ∀ W, Calls Tryz.prog 57 #[.bool false, .string (wholeT ds k), .int .i64 0] W fun e w' => e = .returned (decE (opI ds k)) ∧ Below W.heap.size W w' := fun W => by
    have h := made_any false (wholeT ds k) 0 W (whole_dig hd k)
    rw [(dval_parts hd k).1] at h
    exact h
  have hmF : ∀ W, Calls Tryz.prog 57 #[.bool false, .string (behindT ds k), .int .i64 0] W fun e w' => e = .returned (decE (opF ds k)) ∧ Below W.heap.size W w' := fun W => by
    have h := made_any false (behindT ds k) 0 W (behind_dig' hd k)
    rw [(dval_parts hd k).2] at h
    exact h
  have hmT : ∀ W, Calls Tryz.prog 57 #[.bool false, .string (shortT ds k), .int .i64 0] W fun e w' => e = .returned (decE (opT ds k)) ∧ Below W.heap.size W w' := fun W => by
    have h := made_any false (shortT ds k) 0 W (short_dig hd k)
    rw [dval_short hd] at h
    exact h
  have hs1 := behind_size ds k
  have hs2 : (shortT ds k).size = opW ds k := short_size hd k
  have hs3 : opW ds k ≤ k := by unfold opW; omega
  clear hr hd
  unfold opsA
  generalize wholeT ds k = T1 at *
  generalize behindT ds k = T2 at *
  generalize shortT ds k = T3 at *
  generalize opI ds k = rI at *
  generalize opF ds k = rF at *
  generalize opT ds k = rT at *
  generalize opW ds k = W0 at *
  go_enter Tryz.func34, Tryz.ntmps34
  go_wp2_with fail
  refine (hchk _).mono ?_
  rintro e w1 ⟨rfl, hB1⟩
  have ka := ((Blk.new w _ _).alloc _).on hB1
  have kb := (Blk.new' (w.alloc _) _ _ (w.heap.size + 1) (by simp)).on hB1
  have hBw1 := (((Below.refl w.heap.size w).alloc (Nat.le_refl _) _).alloc (by simp) _).trans (hB1.mono (by simp; omega))
  clear hB1
  have ca := ka.cell
  have fa := ka.free
  go_wp2_with fail
  refine (hpa _).mono ?_
  rintro e w2 ⟨rfl, hB2⟩
  have ka := ka.on hB2
  have kb := kb.on hB2
  have hBw2 := hBw1.trans (hB2.mono hBw1.size)
  clear hpa hchk ca fa hBw1 hB2
  go_wp2_with fail
  refine (htr _).mono ?_
  rintro e w' ⟨rfl, rfl⟩
  clear htr
  have ka' := ka.set 0 (.bool false)
  have kb' := kb.other w.heap.size 0 (.bool false) (by omega)
  have la := ka.lt
  have lb : w.heap.size + 1 < w2.heap.size := kb.lt
  have ca := ka.cell
  have fa := ka.free
  have ca' := ka'.cell
  go_wp2_with fail
  refine (hmI _).mono ?_
  rintro e w4 ⟨rfl, hB4⟩
  have kb := (kb'.alloc _).on hB4
  have kc := (Blk.new' (w2.setCell ⟨w.heap.size, 0, none⟩ (.bool false)) _ _ w2.heap.size (by simp)).on hB4
  have hBw4 := ((hBw2.setCell (p := ⟨w.heap.size, 0, none⟩) (Nat.le_refl _) (.bool false)).alloc (by simp; omega) _).trans (hB4.mono (by simp; omega))
  clear hmI hB4 ka ka' kb' ca fa ca'
  have cc := kc.cell
  have fc := kc.free
  go_wp2_with fail
  refine (hmF _).mono ?_
  rintro e w5 ⟨rfl, hB5⟩
  have kb := (((kb.other w2.heap.size 3 (.bool rI.1) (Nat.ne_of_lt lb)).other w2.heap.size 4 (.string rI.2.1) (Nat.ne_of_lt lb)).other w2.heap.size 5 (.int .i64 rI.2.2.1) (Nat.ne_of_lt lb)).on hB5
  have kc := (((kc.set 3 (.bool rI.1)).set 4 (.string rI.2.1)).set 5 (.int .i64 rI.2.2.1)).on hB5
  have hBw5 := (((hBw4.setCell (p := ⟨w2.heap.size, 3, none⟩) (by show w.heap.size ≤ w2.heap.size; omega) (.bool rI.1)).setCell (p := ⟨w2.heap.size, 4, none⟩) (by show w.heap.size ≤ w2.heap.size; omega) (.string rI.2.1)).setCell (p := ⟨w2.heap.size, 5, none⟩) (by show w.heap.size ≤ w2.heap.size; omega) (.int .i64 rI.2.2.1)).trans (hB5.mono (by have := hBw4.size; simp; omega))
  clear hmF hB5 cc fc
  have kc : Blk w5 w2.heap.size #[.bool false, .string ds, .int .i64 k, .bool rI.1, .string rI.2.1, .int .i64 rI.2.2.1, .bool false, .string ⟨#[]⟩, .int .i64 0, .bool false, .string ⟨#[]⟩, .int .i64 0, .int .i64 k, .int .i64 W0] := kc
  have cc := kc.cell
  have fc := kc.free
  go_wp2_with fail
  refine (hmT _).mono ?_
  rintro e w6 ⟨rfl, hB6⟩
  have kb := (((kb.other w2.heap.size 6 (.bool rF.1) (Nat.ne_of_lt lb)).other w2.heap.size 7 (.string rF.2.1) (Nat.ne_of_lt lb)).other w2.heap.size 8 (.int .i64 rF.2.2.1) (Nat.ne_of_lt lb)).on hB6
  have kc := (((kc.set 6 (.bool rF.1)).set 7 (.string rF.2.1)).set 8 (.int .i64 rF.2.2.1)).on hB6
  have hBw6 := (((hBw5.setCell (p := ⟨w2.heap.size, 6, none⟩) (by show w.heap.size ≤ w2.heap.size; omega) (.bool rF.1)).setCell (p := ⟨w2.heap.size, 7, none⟩) (by show w.heap.size ≤ w2.heap.size; omega) (.string rF.2.1)).setCell (p := ⟨w2.heap.size, 8, none⟩) (by show w.heap.size ≤ w2.heap.size; omega) (.int .i64 rF.2.2.1)).trans (hB6.mono (by have := hBw5.size; simp; omega))
  clear hmT hB6 cc fc
  have kc : Blk w6 w2.heap.size #[.bool false, .string ds, .int .i64 k, .bool rI.1, .string rI.2.1, .int .i64 rI.2.2.1, .bool rF.1, .string rF.2.1, .int .i64 rF.2.2.1, .bool false, .string ⟨#[]⟩, .int .i64 0, .int .i64 k, .int .i64 W0] := kc
  have cc := kc.cell
  have fc := kc.free
  have cb := kb.cell
  have fb := kb.free
  have kc' := ((kc.set 9 (.bool rT.1)).set 10 (.string rT.2.1)).set 11 (.int .i64 rT.2.2.1)
  have kc' : Blk _ w2.heap.size #[.bool false, .string ds, .int .i64 k, .bool rI.1, .string rI.2.1, .int .i64 rI.2.2.1, .bool rF.1, .string rF.2.1, .int .i64 rF.2.2.1, .bool rT.1, .string rT.2.1, .int .i64 rT.2.2.1, .int .i64 k, .int .i64 W0] := kc'
  have kb' := ((kb.other w2.heap.size 9 (.bool rT.1) (Nat.ne_of_lt lb)).other w2.heap.size 10 (.string rT.2.1) (Nat.ne_of_lt lb)).other w2.heap.size 11 (.int .i64 rT.2.2.1) (Nat.ne_of_lt lb)
  have hBw7 := ((hBw6.setCell (p := ⟨w2.heap.size, 9, none⟩) (by show w.heap.size ≤ w2.heap.size; omega) (.bool rT.1)).setCell (p := ⟨w2.heap.size, 10, none⟩) (by show w.heap.size ≤ w2.heap.size; omega) (.string rT.2.1)).setCell (p := ⟨w2.heap.size, 11, none⟩) (by show w.heap.size ≤ w2.heap.size; omega) (.int .i64 rT.2.2.1)
  go_upto_region 12 with fail
  clear cc fc cb fb
  generalize ((w6.setCell ⟨w2.heap.size, 9, none⟩ (.bool rT.1)).setCell ⟨w2.heap.size, 10, none⟩ (.string rT.2.1)).setCell ⟨w2.heap.size, 11, none⟩ (.int .i64 rT.2.2.1) = W7 at *
  have cc := kc'.cell
  have cb := kb'.cell
  have fb := kb'.free
  go_wp2_with fail
  have kr := ((((((((((((((kb'.set 0 (.bool false)).set 1 (.string ds)).set 2 (.int .i64 k)).set 3 (.bool rI.1)).set 4 (.string rI.2.1)).set 5 (.int .i64 rI.2.2.1)).set 6 (.bool rF.1)).set 7 (.string rF.2.1)).set 8 (.int .i64 rF.2.2.1)).set 9 (.bool rT.1)).set 10 (.string rT.2.1)).set 11 (.int .i64 rT.2.2.1)).set 12 (.int .i64 k)).set 13 (.int .i64 W0))
  simp only [List.setIfInBounds_toArray, List.set_cons_zero, List.set_cons_succ] at kr
  have cr := kr.cell
  clear cb fb cc
  refine bodyPost_ret (v := .tuple #[opsV ds k rI rF rT W0, .int .i64 0]) (by simp [results, Tryz.results34, go_sem, cr]) rfl ⟨rfl, ?_⟩
  repeat (refine Below.setCell ?_ (Nat.le_succ _) _)
  exact hBw7

set_option maxRecDepth 100000 in
set_option maxHeartbeats 2000000 in
theorem operands_no (neg : Bool) (ds : ByteArray) (sc : Int) (w : World) (hr : rightB neg ds sc = false) :
    Calls Tryz.prog 34 #[.agg #[.bool neg, .string ds, .int .i64 sc]] w fun e w' => e = .returned (.tuple #[opsV ⟨#[]⟩ 0 (false, ⟨#[]⟩, 0, 0) (false, ⟨#[]⟩, 0, 0) (false, ⟨#[]⟩, 0, 0) 0, .int .i64 2]) ∧ Below w.heap.size w w' := by
  have hchk := fun W => check_no hr W
  clear hr
  go_enter Tryz.func34, Tryz.ntmps34
  go_wp2_with fail
  refine (hchk _).mono ?_
  rintro e w1 ⟨rfl, hB1⟩
  have kb := (Blk.new' (w.alloc _) _ _ (w.heap.size + 1) (by simp)).on hB1
  have hBw1 := (((Below.refl w.heap.size w).alloc (Nat.le_refl _) _).alloc (by simp) _).trans (hB1.mono (by simp; omega))
  have cb := kb.cell
  have fb := kb.free
  go_wp2_with fail
  have kr := ((((((((((((((kb.set 0 (.bool false)).set 1 (.string ⟨#[]⟩)).set 2 (.int .i64 0)).set 3 (.bool false)).set 4 (.string ⟨#[]⟩)).set 5 (.int .i64 0)).set 6 (.bool false)).set 7 (.string ⟨#[]⟩)).set 8 (.int .i64 0)).set 9 (.bool false)).set 10 (.string ⟨#[]⟩)).set 11 (.int .i64 0)).set 12 (.int .i64 0)).set 13 (.int .i64 0))
  simp only [List.setIfInBounds_toArray, List.set_cons_zero, List.set_cons_succ] at kr
  have cr := kr.cell
  clear cb fb
  refine bodyPost_ret (v := .tuple #[opsV ⟨#[]⟩ 0 (false, ⟨#[]⟩, 0, 0) (false, ⟨#[]⟩, 0, 0) (false, ⟨#[]⟩, 0, 0) 0, .int .i64 2]) (by simp [results, Tryz.results34, go_sem, cr]) rfl ⟨rfl, ?_⟩
  repeat (refine Below.setCell ?_ (Nat.le_succ _) _)
  exact hBw1

end
section
open Go.RowKit Go.PlainAid
theorem scaled_yes {neg : Bool} {ds : ByteArray} {sc scale : Int} (hr : rightB neg ds sc = true) (h1 : 0 ≤ scale) (h2 : scale ≤ 400) (w : World) :
    Calls Tryz.prog 123 #[.agg #[.bool neg, .string ds, .int .i64 sc], .int .i64 scale] w fun e w' => e = .returned (.int .i64 0) ∧ Below w.heap.size w w' := by
  have hB0 := (Below.refl w.heap.size w).alloc (Nat.le_refl _) (.cells #[.bool neg, .string ds, .int .i64 sc] 23)
  have hchk := fun W => check_yes hr W
  clear hr
  go_enter Tryz.func123, Tryz.ntmps123
  go_wp2_with fail
  refine (hchk _).mono ?_
  rintro e w1 ⟨rfl, hB1⟩
  have hBw := hB0.trans (hB1.mono (by simp))
  go_wp2
  go_ret
  exact ⟨rfl, hBw⟩

theorem scaled_no {neg : Bool} {ds : ByteArray} {sc scale : Int} (h : rightB neg ds sc = false ∨ scale < 0 ∨ 400 < scale) (w : World) :
    Calls Tryz.prog 123 #[.agg #[.bool neg, .string ds, .int .i64 sc], .int .i64 scale] w fun e w' => e = .returned (.int .i64 2) ∧ Below w.heap.size w w' := by
  have hB0 := (Below.refl w.heap.size w).alloc (Nat.le_refl _) (.cells #[.bool neg, .string ds, .int .i64 sc] 23)
  cases hr : rightB neg ds sc with
  | false =>
    have hchk := fun W => check_no hr W
    clear hr h
    go_enter Tryz.func123, Tryz.ntmps123
    go_wp2_with fail
    refine (hchk _).mono ?_
    rintro e w1 ⟨rfl, hB1⟩
    have hBw := hB0.trans (hB1.mono (by simp))
    go_wp2
    go_ret
    exact ⟨rfl, hBw⟩
  | true =>
    have hchk := fun W => check_yes hr W
    have h : scale < 0 ∨ 400 < scale := by rcases h with h | h; { rw [hr] at h; cases h }; exact h
    clear hr
    by_cases h1 : scale < 0
    · go_enter Tryz.func123, Tryz.ntmps123
      go_wp2_with fail
      refine (hchk _).mono ?_
      rintro e w1 ⟨rfl, hB1⟩
      have hBw := hB0.trans (hB1.mono (by simp))
      go_wp2
      go_ret
      exact ⟨rfl, hBw⟩
    · have h2 : 400 < scale := by omega
      go_enter Tryz.func123, Tryz.ntmps123
      go_wp2_with fail
      refine (hchk _).mono ?_
      rintro e w1 ⟨rfl, hB1⟩
      have hBw := hB0.trans (hB1.mono (by simp))
      go_wp2
      go_ret
      exact ⟨rfl, hBw⟩

end
end Go.Proofs.YtgbemhehbhlgpaaGreatDoor
