/-
  Rules for numbers: the sign of a decimal; whole numbers; dec.Of at every number.
-/
import Derived.Test.YtgbemhehbhlgpaaGreatDoorPlBackW
namespace Go.Proofs.YtgbemhehbhlgpaaGreatDoor
open Go.RowKit Go.PlainAid

theorem right_turned {neg : Bool} {ds : ByteArray} {k : Int} (h : rightB neg ds k = true) : rightB (turnB neg ds) ds k = true := by
  obtain ⟨h1, h2, h3, h4, h5, h6⟩ := of_decide_eq_true h
  refine right_yes h1 h2 h3 h4 (fun g => ?_) h6
  obtain ⟨g1, g2⟩ := g
  rcases g2 with g2 | g2
  · exact h5 ⟨g1, .inl g2⟩
  · have hz : ds.size = 1 := by
      by_cases e : 1 < ds.size
      · exact absurd ⟨g1, .inl e⟩ h5
      · omega
    have e : ds = ⟨#[48]⟩ := bytes_eq (by rw [hz]; rfl) (fun k hk => by obtain rfl : k = 0 := (by omega); rw [g1]; rfl)
    have ht : ((⟨#[48]⟩ : ByteArray).toList == [48]) = true := tl_yes (l := [48]) rfl
    rw [e] at g2
    unfold turnB at g2
    rw [ht] at g2
    cases neg <;> exact absurd g2 (by decide)
theorem met_turned {neg : Bool} {ds : ByteArray} {k : Int} (h : rightB neg ds k = true) (rows : List (List Rl)) : metB (turnB neg ds) ds k rows = metB neg ds k rows := by
  unfold metB
  rw [h, right_turned h]
theorem low_none (ds : ByteArray) : lowB ds 0 = [] := by
  unfold lowB
  exact List.take_zero
theorem sign_row {o : Int} (ho : o = 102 ∨ o = 116 ∨ o = 118 ∨ o = 119) (ds : ByteArray) : rowsH ds 0 [[⟨o, 0, false, [(0, 0)]⟩]] = true := by
  have e : opD o ds 0 = (0, 0) := by
    rcases ho with rfl | rfl | rfl | rfl
    · show (dval ds % 10 ^ 0, 0) = (0, 0)
      rw [Nat.pow_zero, Nat.mod_one]
    · show (opT' ds 0, 0) = (0, 0)
      unfold opT'
      rw [low_none]
      rfl
    · rfl
    · show (opW ds 0, 0) = (0, 0)
      unfold opW
      rw [Nat.zero_sub]
  show ((inD [(0, 0)] (mdD 0 (opD o ds 0)) != false) && true || false) = true
  rw [e]
  decide
def sgB (o : UInt8) : ByteArray := ⟨#[o, 32, 61, 32, 48]⟩
theorem sg_f : ruleP (sgB 102) = .ok 5 [[⟨102, 0, false, [(0, 0)]⟩]] (sgB 102) := by kernel_rfl
theorem sg_t : ruleP (sgB 116) = .ok 5 [[⟨116, 0, false, [(0, 0)]⟩]] (sgB 116) := by kernel_rfl
theorem sg_v : ruleP (sgB 118) = .ok 5 [[⟨118, 0, false, [(0, 0)]⟩]] (sgB 118) := by kernel_rfl
theorem sg_w : ruleP (sgB 119) = .ok 5 [[⟨119, 0, false, [(0, 0)]⟩]] (sgB 119) := by kernel_rfl
theorem sg_any {o : UInt8} (ho : o = 102 ∨ o = 116 ∨ o = 118 ∨ o = 119) : ∃ rows, ruleP (sgB o) = .ok 5 rows (sgB o) ∧ ∀ ds, rowsH ds 0 rows = true := by
  rcases ho with rfl | rfl | rfl | rfl
  · exact ⟨_, sg_f, sign_row (.inl rfl)⟩
  · exact ⟨_, sg_t, sign_row (.inr (.inl rfl))⟩
  · exact ⟨_, sg_v, sign_row (.inr (.inr (.inl rfl)))⟩
  · exact ⟨_, sg_w, sign_row (.inr (.inr (.inr rfl)))⟩
/-- A rule of a letter is read, and holds for a whole number. -/
theorem sg_parse {o : UInt8} (ho : o = 102 ∨ o = 116 ∨ o = 118 ∨ o = 119) (w : World) (hP : PG w) :
    Calls Tryz.prog 25 #[.string (sgB o)] w fun e w' => (∃ v rows, e = .returned (.tuple #[v, .agg #[.int .i64 0, .int .i64 0]]) ∧ RuleAt w' v (sgB o) rows ∧ ∀ ds, rowsH ds 0 rows = true) ∧ Below w.heap.size w w' := by
  obtain ⟨rows, h1, h2⟩ := sg_any ho
  refine (parse_any (sgB o) w (show 5 ≤ 4096 by decide) hP).mono fun e w' ⟨h3, h4⟩ => ⟨?_, h4⟩
  rw [h1] at h3
  obtain ⟨v, h3, h5⟩ := h3
  exact ⟨v, rows, h3, h5.is, h2⟩

set_option maxRecDepth 100000 in
theorem of_neg (m : Nat) (h1m : 1 ≤ m) (hm : m ≤ 9223372036854775808) (w : World) (hP : PG w) : Calls Tryz.prog 30 #[.int .i64 (-(m : Int))] w fun e w' => e = .returned (.agg #[.bool true, .string (digs m), .int .i64 0]) ∧ Below w.heap.size w w' := by
  have hdl : Lib.decDigits m = (digs m).data.toList := by
    have h := itoa_digs m
    rw [Lib.itoa_nonneg] at h
    rw [← h]
  obtain ⟨S, hS⟩ : ∃ S : ByteArray, (⟨(45 :: (digs m).data.toList).toArray⟩ : ByteArray) = S := ⟨_, rfl⟩
  have hSl : S.data.toList = 45 :: (digs m).data.toList := by rw [← hS]
  have h2 : ∀ W : World, Calls Tryz.prog 49 #[.string S, .string ⟨#[45]⟩] W fun e w' => e = .returned (.tuple #[.string (digs m), .bool true]) ∧ W = w' := fun W => by
    have h := Tryz.strings_CutPrefix S ⟨#[45]⟩ W
    have e2 : Lib.hasPrefix S.data.toList (⟨#[45]⟩ : ByteArray).data.toList = true := by rw [hSl]; rfl
    have e : (⟨(Lib.trimPrefix S.data.toList (⟨#[45]⟩ : ByteArray).data.toList).toArray⟩ : ByteArray) = digs m := by
      unfold Lib.trimPrefix
      rw [e2, hSl]
      rfl
    rw [e, e2] at h
    exact h.mono fun _ _ ⟨a, b⟩ => ⟨a, b.symm⟩
  have hA := (Below.refl w.heap.size w).alloc (Nat.le_refl _) (.cells #[.bool false, .string ⟨#[]⟩, .int .i64 0] 23)
  have h1 : Calls Tryz.prog 50 #[.int .i64 (-(m : Int)), .int .i64 10] (w.alloc (.cells #[.bool false, .string ⟨#[]⟩, .int .i64 0] 23)) fun e w' => e = .returned (.string S) ∧ Below (w.alloc (.cells #[.bool false, .string ⟨#[]⟩, .int .i64 0] 23)).heap.size (w.alloc (.cells #[.bool false, .string ⟨#[]⟩, .int .i64 0] 23)) w' :=
    (Tryz.strconv_FormatInt_10 (-(m : Int)) (by omega) (by omega) (w.alloc (.cells #[.bool false, .string ⟨#[]⟩, .int .i64 0] 23)) (hP.on hA).1).mono fun e w' ⟨h1, k, os, h2⟩ => ⟨by
      have e : Lib.itoa (-(m : Int)) = 45 :: (digs m).data.toList := by
        unfold Lib.itoa
        rw [if_pos (by omega), Int.natAbs_neg, Int.natAbs_natCast, hdl]
      rw [h1, e, hS], by rw [h2]; exact below_grow _ k os⟩
  have hR := Blk.new w #[.bool false, .string ⟨#[]⟩, .int .i64 0] 23
  generalize digs m = D at *
  clear hdl hSl hS
  obtain ⟨z, hz⟩ : ∃ z : Int, -(m : Int) = z := ⟨_, rfl⟩
  rw [hz] at h1 ⊢
  clear hz h1m hm
  go_enter Tryz.func30, Tryz.ntmps30
  go_wp2_with fail
  refine h1.mono ?_
  rintro e w1 ⟨rfl, hB⟩
  have hR1 := hR.on hB
  have c0 := hR1.cell 0; have c1 := hR1.cell 1; have c2 := hR1.cell 2
  have f0 := hR1.free 0; have f1 := hR1.free 1; have f2 := hR1.free 2
  simp at c0 c1 c2
  go_wp2_with fail
  refine (h2 _).mono ?_
  rintro e w' ⟨rfl, rfl⟩
  go_wp2_with fail
  have hW := hA.trans (hB.mono hA.size)
  refine bodyPost_ret ?_ rfl ⟨rfl, ?_⟩
  · simp [results, Tryz.results30, go_sem, c0, c1, c2]
  · exact ((hW.setCell (p := ⟨w.heap.size, 0, none⟩) (Nat.le_refl _) _).setCell (p := ⟨w.heap.size, 1, none⟩) (Nat.le_refl _) _).setCell (p := ⟨w.heap.size, 2, none⟩) (Nat.le_refl _) _
/-- dec.Of at every number: a whole decimal that may be. -/
theorem of_any (z : Int) (h1 : -9223372036854775808 ≤ z) (h2 : z ≤ 9223372036854775807) (w : World) (hP : PG w) :
    Calls Tryz.prog 30 #[.int .i64 z] w fun e w' => (∃ neg ds, rightB neg ds 0 = true ∧ e = .returned (.agg #[.bool neg, .string ds, .int .i64 0])) ∧ Below w.heap.size w w' := by
  by_cases h : 0 ≤ z
  · obtain ⟨n, rfl⟩ : ∃ n : Nat, z = n := ⟨z.toNat, by omega⟩
    have hd : (digs n).size ≤ 400 := Nat.le_trans (digs_le (m := 19) (by omega) (by decide)) (by decide)
    exact (of_nat n (by omega) w hP).mono fun e w' ⟨h3, h4⟩ => ⟨⟨false, digs n, digs_right (neg := false) (k := 0) hd (by decide) (by decide), h3⟩, h4⟩
  · obtain ⟨n, rfl⟩ : ∃ n : Nat, z = -(n : Int) := ⟨z.natAbs, by omega⟩
    have hd : (digs n).size ≤ 400 := Nat.le_trans (digs_le (m := 19) (by omega) (by decide)) (by decide)
    have hr : rightB true (digs n) 0 = true := by
      have h := digs_right (neg := true) (k := 0) hd (by decide) (by decide)
      have hn : (n != 0) = true := by
        have : n ≠ 0 := by omega
        simpa using this
      rw [hn] at h
      exact h
    exact (of_neg n (by omega) (by omega) w hP).mono fun e w' ⟨h3, h4⟩ => ⟨⟨true, digs n, hr, h3⟩, h4⟩

end Go.Proofs.YtgbemhehbhlgpaaGreatDoor
