/-
  The walks of dec.Check, dec.isDigit and the reference's Right.
-/
import Derived.Test.YtgccppilhbannaaDoorRows
import Derived.Test.YtgccppilhbannaaDoorDecP
import Derived.WalkKit
import Derived.WalkSpells
import Derived.WalkLawsBesides
import Derived.Lib.Hide
import Derived.Handy
namespace Go.Proofs.YtgccppilhbannaaDoor
open Go.RowKit Go.PlainAid

set_option maxRecDepth 100000 in
set_option maxHeartbeats 2000000 in
theorem check_any (neg : Bool) (ds : ByteArray) (sc : Int) (w : World) :
    Calls Tryd.prog 17 #[.agg #[.bool neg, .string ds, .int .i64 sc]] w fun e w' => e = .returned (.int .i64 (errB (rightB neg ds sc))) ∧ Below w.heap.size w w' := by
  have hb := get_bt ds
  have hB := (Below.refl w.heap.size w).alloc (Nat.le_refl _) (.cells #[.bool neg, .string ds, .int .i64 sc] 23)
  by_cases hpre : 1 ≤ ds.size ∧ ds.size ≤ 400 ∧ 0 ≤ sc ∧ sc ≤ 400 ∧ ¬ (bt ds 0 = 48 ∧ (1 < ds.size ∨ neg = true))
  · obtain ⟨h1, h2, h3, h4, h5⟩ := hpre
    have H5 := Lib.hid h5
    by_cases h0 : bt ds 0 = 48
    · have hn : neg = false := by cases neg with
        | true => exact absurd ⟨h0, .inr rfl⟩ h5
        | false => rfl
      have hz : ¬ 1 < ds.size := fun g => h5 ⟨h0, .inl g⟩
      have h6 : (bt ds 0 == 48) = true := by simpa using h0
      clear h5 h0
      subst hn
      go_enter Tryd.func17, Tryd.ntmps17
      go_wp2
      go_loop [4] (fun i => ∃ pos : Nat, i = .int .i64 pos ∧ pos ≤ ds.size ∧ ∀ k, k < pos → 48 ≤ bt ds k ∧ bt ds k ≤ 57) (fun i => ds.size - (intOf i).toNat)
      case atStart => exact ⟨0, rfl, Nat.zero_le _, fun k hk => absurd hk (by omega)⟩
      case round =>
        obtain ⟨pos, rfl, hle, hall⟩ := hrel
        have HA := Lib.hid hall; clear hall
        by_cases hp : pos < ds.size
        · by_cases hd : 48 ≤ bt ds pos ∧ bt ds pos ≤ 57
          · obtain ⟨hd1, hd2⟩ := hd
            go_wp2
            go_round
            case rel => exact ⟨pos + 1, by go_num, by omega, fun k hk => by by_cases e : k = pos; { subst e; exact ⟨hd1, hd2⟩ }; exact HA.out k (by omega)⟩
            case measure => simp [intOf]; omega
          · by_cases hd1 : 48 ≤ bt ds pos
            all_goals
              go_wp2
              go_ret
              exact ⟨ret_int (by rw [right_bad hp (by omega)]; rfl), hB⟩
        · go_wp2
          go_ret
          exact ⟨ret_int (by rw [right_yes h1 h2 h3 h4 H5.out (fun k hk => HA.out k (by omega))]; rfl), hB⟩
    · have h6 : (bt ds 0 == 48) = false := by simpa using h0
      clear h5 h0
      go_enter Tryd.func17, Tryd.ntmps17
      go_wp2
      go_loop [4] (fun i => ∃ pos : Nat, i = .int .i64 pos ∧ pos ≤ ds.size ∧ ∀ k, k < pos → 48 ≤ bt ds k ∧ bt ds k ≤ 57) (fun i => ds.size - (intOf i).toNat)
      case atStart => exact ⟨0, rfl, Nat.zero_le _, fun k hk => absurd hk (by omega)⟩
      case round =>
        obtain ⟨pos, rfl, hle, hall⟩ := hrel
        have HA := Lib.hid hall; clear hall
        by_cases hp : pos < ds.size
        · by_cases hd : 48 ≤ bt ds pos ∧ bt ds pos ≤ 57
          · obtain ⟨hd1, hd2⟩ := hd
            go_wp2
            go_round
            case rel => exact ⟨pos + 1, by go_num, by omega, fun k hk => by by_cases e : k = pos; { subst e; exact ⟨hd1, hd2⟩ }; exact HA.out k (by omega)⟩
            case measure => simp [intOf]; omega
          · by_cases hd1 : 48 ≤ bt ds pos
            all_goals
              go_wp2
              go_ret
              exact ⟨ret_int (by rw [right_bad hp (by omega)]; rfl), hB⟩
        · go_wp2
          go_ret
          exact ⟨ret_int (by rw [right_yes h1 h2 h3 h4 H5.out (fun k hk => HA.out k (by omega))]; rfl), hB⟩
  · have HN := Lib.hid (right_no (neg := neg) hpre)
    by_cases h0 : 1 ≤ ds.size ∧ ds.size ≤ 400 ∧ 0 ≤ sc ∧ sc ≤ 400
    · have h5 : bt ds 0 = 48 ∧ (1 < ds.size ∨ neg = true) := Classical.byContradiction fun g => hpre ⟨h0.1, h0.2.1, h0.2.2.1, h0.2.2.2, g⟩
      obtain ⟨h1, h2, h3, h4⟩ := h0
      obtain ⟨h6, h7⟩ := h5
      have h6 : (bt ds 0 == 48) = true := by simpa using h6
      clear hpre
      by_cases h8 : 1 < ds.size
      · clear h7
        go_enter Tryd.func17, Tryd.ntmps17
        go_wp2
        go_ret
        exact ⟨ret_int (by rw [HN.out]; rfl), hB⟩
      · have hn : neg = true := by rcases h7 with h7 | h7
                                   · exact absurd h7 h8
                                   · exact h7
        subst hn
        clear h7
        go_enter Tryd.func17, Tryd.ntmps17
        go_wp2
        go_ret
        exact ⟨ret_int (by rw [HN.out]; rfl), hB⟩
    · clear hpre
      by_cases h1 : ds.size < 1
      · go_enter Tryd.func17, Tryd.ntmps17
        go_wp2
        go_ret
        exact ⟨ret_int (by rw [HN.out]; rfl), hB⟩
      by_cases h2 : 400 < ds.size
      · go_enter Tryd.func17, Tryd.ntmps17
        go_wp2
        go_ret
        exact ⟨ret_int (by rw [HN.out]; rfl), hB⟩
      by_cases h3 : sc < 0
      · go_enter Tryd.func17, Tryd.ntmps17
        go_wp2
        go_ret
        exact ⟨ret_int (by rw [HN.out]; rfl), hB⟩
      have h4 : 400 < sc := by omega
      go_enter Tryd.func17, Tryd.ntmps17
      go_wp2
      go_ret
      exact ⟨ret_int (by rw [HN.out]; rfl), hB⟩

set_option maxRecDepth 100000 in
set_option maxHeartbeats 2000000 in
theorem rRight_any (neg : Bool) (ds : ByteArray) (sc : Int) (w : World) :
    Calls Tryd.prog 16 #[.agg #[.bool neg, .string ds, .int .i64 sc]] w fun e w' => e = .returned (.bool (rightB neg ds sc)) ∧ Below w.heap.size w w' := by
  have hb := get_bt ds
  have hB := (Below.refl w.heap.size w).alloc (Nat.le_refl _) (.cells #[.bool neg, .string ds, .int .i64 sc] 23)
  by_cases h0 : 1 ≤ ds.size ∧ ds.size ≤ 400 ∧ 0 ≤ sc ∧ sc ≤ 400
  · obtain ⟨h1, h2, h3, h4⟩ := h0
    go_enter Tryd.func16, Tryd.ntmps16
    go_wp2
    go_loop [4] (fun i => ∃ pos : Nat, i = .int .i64 pos ∧ pos ≤ ds.size ∧ ∀ k, k < pos → 48 ≤ bt ds k ∧ bt ds k ≤ 57) (fun i => ds.size - (intOf i).toNat)
    case atStart => exact ⟨0, rfl, Nat.zero_le _, fun k hk => absurd hk (by omega)⟩
    case round =>
      obtain ⟨pos, rfl, hle, hall⟩ := hrel
      have HA := Lib.hid hall; clear hall
      by_cases hp : pos < ds.size
      · by_cases hd : 48 ≤ bt ds pos ∧ bt ds pos ≤ 57
        · obtain ⟨hd1, hd2⟩ := hd
          go_wp2
          go_round
          case rel => exact ⟨pos + 1, by go_num, by omega, fun k hk => by by_cases e : k = pos; { subst e; exact ⟨hd1, hd2⟩ }; exact HA.out k (by omega)⟩
          case measure => simp [intOf]; omega
        · by_cases hd1 : 48 ≤ bt ds pos
          all_goals
            go_wp2
            go_ret
            exact ⟨ret_bool (by rw [right_bad hp (by omega)]), hB⟩
      · have hall : ∀ k, k < ds.size → 48 ≤ bt ds k ∧ bt ds k ≤ 57 := fun k hk => HA.out k (by omega)
        have HALL := Lib.hid hall; clear hall
        by_cases h6 : bt ds 0 = 48
        · have h7 : (bt ds 0 == 48) = true := by simpa using h6
          by_cases h8 : 1 < ds.size
          · have HN := Lib.hid (right_no (neg := neg) (ds := ds) (scale := sc) (fun g => g.2.2.2.2 ⟨h6, .inl h8⟩))
            clear h6
            go_wp2
            go_ret
            exact ⟨ret_bool (by rw [HN.out]; first | done | rfl | (simp; done) | (simp; omega)), hB⟩
          · cases neg with
            | true =>
              have HN := Lib.hid (right_no (neg := true) (ds := ds) (scale := sc) (fun g => g.2.2.2.2 ⟨h6, .inr rfl⟩))
              clear h6
              go_wp2
              go_ret
              exact ⟨ret_bool (by rw [HN.out]; first | done | rfl | (simp; done) | (simp; omega)), hB⟩
            | false =>
              have HN := Lib.hid (right_yes (neg := false) (ds := ds) (scale := sc) h1 h2 h3 h4 (fun g => by rcases g.2 with g | g; { exact h8 g }; cases g) HALL.out)
              clear h6
              go_wp2
              go_ret
              exact ⟨ret_bool (by rw [HN.out]; first | done | rfl | (simp; done) | (simp; omega)), hB⟩
        · have h7 : (bt ds 0 == 48) = false := by simpa using h6
          have HN := Lib.hid (right_yes (neg := neg) (ds := ds) (scale := sc) h1 h2 h3 h4 (fun g => h6 g.1) HALL.out)
          clear h6
          go_wp2
          go_ret
          exact ⟨ret_bool (by rw [HN.out]; first | done | rfl | (simp; done) | (simp; omega)), hB⟩
  · have HN := Lib.hid (right_no (neg := neg) (ds := ds) (scale := sc) (fun g => h0 ⟨g.1, g.2.1, g.2.2.1, g.2.2.2.1⟩))
    by_cases h1 : ds.size < 1
    · go_enter Tryd.func16, Tryd.ntmps16
      go_wp2
      go_ret
      exact ⟨ret_bool (by rw [HN.out]; first | done | rfl | (simp; done) | (simp; omega)), hB⟩
    by_cases h2 : 400 < ds.size
    · go_enter Tryd.func16, Tryd.ntmps16
      go_wp2
      go_ret
      exact ⟨ret_bool (by rw [HN.out]; first | done | rfl | (simp; done) | (simp; omega)), hB⟩
    by_cases h3 : sc < 0
    · go_enter Tryd.func16, Tryd.ntmps16
      go_wp2
      go_ret
      exact ⟨ret_bool (by rw [HN.out]; first | done | rfl | (simp; done) | (simp; omega)), hB⟩
    have h4 : 400 < sc := by omega
    clear h0
    go_enter Tryd.func16, Tryd.ntmps16
    go_wp2
    go_ret
    exact ⟨ret_bool (by rw [HN.out]; first | done | rfl | (simp; done) | (simp; omega)), hB⟩

/-- Does a digit stand at a place of a text? -/
def isDig (s : ByteArray) (k : Nat) : Bool := decide (k < s.size ∧ 48 ≤ bt s k ∧ bt s k ≤ 57)
set_option maxHeartbeats 400000 in
theorem isDigit_any (s : ByteArray) (k : Nat) (w : World) :
    Calls Tryd.prog 47 #[.string s, .int .i64 k] w fun e w' => e = .returned (.bool (isDig s k)) ∧ w = w' := by
  have hb := get_bt s
  by_cases h1 : k < s.size
  · by_cases h2 : 48 ≤ bt s k
    all_goals
      go_enter Tryd.func47, Tryd.ntmps47
      go_wp2
      go_ret
      refine ⟨ret_bool ?_, rfl⟩
      rw [Bool.eq_iff_iff]; simp [isDig]; try omega
  · go_enter Tryd.func47, Tryd.ntmps47
    go_wp2
    go_ret
    refine ⟨ret_bool ?_, rfl⟩
    rw [Bool.eq_iff_iff]; simp [isDig]; try omega
end Go.Proofs.YtgccppilhbannaaDoor
