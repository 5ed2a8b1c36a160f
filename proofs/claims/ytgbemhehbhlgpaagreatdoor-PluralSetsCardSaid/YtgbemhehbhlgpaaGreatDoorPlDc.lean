/-
  Laws and contracts taken over from earlier texts (cut out by a program of this seat's own, slice.py), as far as this seat needs them.
-/
import Derived.Test.YtgbemhehbhlgpaaGreatDoorPlDb
namespace Go.Proofs.YtgbemhehbhlgpaaGreatDoor
section
theorem rowval_take_succ (l : List Nat) (m : Nat) : rowval (l.take (m + 1)) = rowval (l.take m) + 10 ^ m * l.getD m 0 := by
  by_cases h : m < l.length
  · rw [List.take_succ_eq_append_getElem h, rowval_append, List.length_take, Nat.min_eq_left (by omega), List.getD_eq_getElem?_getD, List.getElem?_eq_getElem h]
    simp [rowval]
  · rw [List.take_of_length_le (by omega), List.take_of_length_le (by omega), List.getD_eq_getElem?_getD, List.getElem?_eq_none (by omega)]
    simp

theorem getD_lt {l : List Nat} (h : ∀ d ∈ l, d < 10) (m : Nat) : l.getD m 0 < 10 := by
  rw [List.getD_eq_getElem?_getD]
  by_cases hm : m < l.length
  · rw [List.getElem?_eq_getElem hm]
    exact h _ (List.getElem_mem hm)
  · rw [List.getElem?_eq_none (by omega)]
    simp

/-- What is borrowed at a place of a difference. -/
def subB (a b : List Nat) : Nat → Nat
  | 0 => 0
  | m + 1 => if a.getD m 0 < b.getD m 0 + subB a b m then 1 else 0

/-- The digit at a place of a difference. -/
def subD (a b : List Nat) (m : Nat) : Nat := if a.getD m 0 < b.getD m 0 + subB a b m then a.getD m 0 + 10 - (b.getD m 0 + subB a b m) else a.getD m 0 - (b.getD m 0 + subB a b m)

theorem subB_le (a b : List Nat) : ∀ m, subB a b m ≤ 1
  | 0 => Nat.zero_le _
  | m + 1 => by simp only [subB]; split <;> omega

theorem subD_lt {a b : List Nat} (ha : ∀ d ∈ a, d < 10) (m : Nat) : subD a b m < 10 := by
  have h1 := getD_lt ha m
  unfold subD
  split <;> omega

def subL (a b : List Nat) (m : Nat) : List Nat := (List.range m).map (subD a b)

theorem subL_length (a b : List Nat) (m : Nat) : (subL a b m).length = m := by simp [subL]

theorem subL_succ (a b : List Nat) (m : Nat) : subL a b (m + 1) = subL a b m ++ [subD a b m] := by simp [subL, List.range_succ]

theorem subL_lt {a b : List Nat} (ha : ∀ d ∈ a, d < 10) (m : Nat) : ∀ d ∈ subL a b m, d < 10 := fun d hd => by
  obtain ⟨j, _, rfl⟩ := List.mem_map.1 hd
  exact subD_lt ha j

theorem subL_val {a b : List Nat} (hb : ∀ d ∈ b, d < 10) : ∀ m, rowval (subL a b m) + rowval (b.take m) = rowval (a.take m) + 10 ^ m * subB a b m
  | 0 => by simp [subL, subB, rowval]
  | m + 1 => by
    have ih := subL_val (a := a) hb m
    rw [subL_succ, rowval_append, subL_length, rowval_take_succ, rowval_take_succ]
    have h1 : rowval [subD a b m] = subD a b m := by simp [rowval]
    have hlt := getD_lt hb m
    have hle := subB_le a b m
    have h2 : subD a b m + b.getD m 0 + subB a b m = a.getD m 0 + 10 * subB a b (m + 1) := by
      simp only [subB, subD]
      split <;> omega
    have h3 : 10 ^ (m + 1) * subB a b (m + 1) = 10 ^ m * (10 * subB a b (m + 1)) := by rw [Nat.pow_succ, Nat.mul_assoc]
    have h4 : 10 ^ m * subD a b m + 10 ^ m * b.getD m 0 + 10 ^ m * subB a b m = 10 ^ m * a.getD m 0 + 10 ^ m * (10 * subB a b (m + 1)) := by
      rw [← Nat.mul_add, ← Nat.mul_add, h2, Nat.mul_add]
    rw [h1, h3]
    omega

theorem rowval_pad_lt {l : List Nat} (h : ∀ d ∈ l, d < 10) (m : Nat) : rowval (l.take m) < 10 ^ m := by
  have h1 := rowval_lt (l := l.take m) (fun d hd => h d (List.mem_of_mem_take hd))
  exact Nat.lt_of_lt_of_le h1 (Nat.pow_le_pow_right (by decide) (by simp; omega))

/-- Which of two rows is less, when all digits from a place on are equal: the digits ahead decide. -/
theorem rowval_split (l : List Nat) (m : Nat) : rowval l = rowval (l.take m) + 10 ^ m * rowval (l.drop m) := by
  by_cases h : m ≤ l.length
  · have := rowval_append (l.take m) (l.drop m)
    rw [List.take_append_drop, List.length_take, Nat.min_eq_left h] at this
    exact this
  · rw [List.take_of_length_le (by omega), List.drop_of_length_le (by omega)]
    simp [rowval]

/-- Two rows are equal from a place on. -/
def EqFrom (a b : List Nat) (m : Nat) : Prop := ∀ j, m ≤ j → a.getD j 0 = b.getD j 0

theorem rowval_ext : ∀ (a b : List Nat), (∀ j, a.getD j 0 = b.getD j 0) → rowval a = rowval b
  | [], [], _ => rfl
  | [], y :: b, h => by
    have h0 := h 0
    have ih := rowval_ext [] b (fun j => by simpa using h (j + 1))
    simp [rowval] at h0 ih ⊢
    omega
  | x :: a, [], h => by
    have h0 := h 0
    have ih := rowval_ext a [] (fun j => by simpa using h (j + 1))
    simp [rowval] at h0 ih ⊢
    omega
  | x :: a, y :: b, h => by
    have h0 := h 0
    have ih := rowval_ext a b (fun j => by simpa using h (j + 1))
    simp [rowval] at h0 ih ⊢
    omega

theorem getD_drop (l : List Nat) (m j : Nat) : (l.drop m).getD j 0 = l.getD (m + j) 0 := by
  rw [List.getD_eq_getElem?_getD, List.getD_eq_getElem?_getD, List.getElem?_drop]

theorem eqFrom_drop {a b : List Nat} {m : Nat} (h : EqFrom a b m) : rowval (a.drop m) = rowval (b.drop m) :=
  rowval_ext _ _ fun j => by rw [getD_drop, getD_drop]; exact h _ (by omega)

/-- The first place from above where two rows differ decides which is less. -/
theorem less_at {a b : List Nat} {m : Nat} (ha : ∀ d ∈ a, d < 10) (hb : ∀ d ∈ b, d < 10) (h : EqFrom a b (m + 1)) (hne : a.getD m 0 ≠ b.getD m 0) : rowval a < rowval b ↔ a.getD m 0 < b.getD m 0 := by
  have h1 := rowval_split a (m + 1)
  have h2 := rowval_split b (m + 1)
  rw [eqFrom_drop h] at h1
  rw [rowval_take_succ] at h1 h2
  have h3 := rowval_pad_lt ha m
  have h4 := rowval_pad_lt hb m
  rcases Nat.lt_or_gt_of_ne hne with hlt | hgt
  · have h5 : 10 ^ m * (a.getD m 0 + 1) ≤ 10 ^ m * b.getD m 0 := Nat.mul_le_mul_left _ hlt
    rw [Nat.mul_add, Nat.mul_one] at h5
    exact ⟨fun _ => hlt, fun _ => by omega⟩
  · have h5 : 10 ^ m * (b.getD m 0 + 1) ≤ 10 ^ m * a.getD m 0 := Nat.mul_le_mul_left _ hgt
    rw [Nat.mul_add, Nat.mul_one] at h5
    exact ⟨fun _ => by omega, fun _ => by omega⟩

theorem eq_from_zero {a b : List Nat} (h : EqFrom a b 0) : rowval a = rowval b := by
  have := eqFrom_drop h
  simpa using this

end
section
open Go.RowKit
/-- A block holds just these cells, none of them frozen. -/
def Blk (w : World) (b : Nat) (cs : Array Value) : Prop := ∃ t, w.heap[b]? = some (.cells cs t (0, 0))

theorem Blk.cell {w : World} {b : Nat} {cs : Array Value} (h : Blk w b cs) (o : Nat) : w.cell? ⟨b, o, none⟩ = cs[o]? := by
  obtain ⟨t, h⟩ := h
  simp [World.cell?, h]

theorem Blk.free {w : World} {b : Nat} {cs : Array Value} (h : Blk w b cs) (o : Nat) : w.frozen? ⟨b, o, none⟩ = false := by
  obtain ⟨t, h⟩ := h
  simp [World.frozen?, h]

theorem Blk.lt {w : World} {b : Nat} {cs : Array Value} (h : Blk w b cs) : b < w.heap.size := by
  obtain ⟨t, h⟩ := h
  exact (Array.getElem?_eq_some_iff.1 h).1

theorem Blk.new (w : World) (cs : Array Value) (t : TypeId) : Blk (w.alloc (.cells cs t)) w.heap.size cs := ⟨t, by show (w.heap.push _)[w.heap.size]? = _; simp⟩

theorem Blk.new' (w : World) (cs : Array Value) (t : TypeId) (b : Nat) (hb : b = w.heap.size) : Blk (w.alloc (.cells cs t)) b cs := by subst hb; exact Blk.new w cs t

theorem Blk.later {B : Nat} {w w' : World} {b : Nat} {cs : Array Value} (h : Blk w b cs) (hB : Below B w w') (hb : b < B) : Blk w' b cs := by
  obtain ⟨t, h⟩ := h
  exact ⟨t, (hB.block b hb).trans h⟩

theorem Blk.on {w w' : World} {b : Nat} {cs : Array Value} (h : Blk w b cs) (hB : Below w.heap.size w w') : Blk w' b cs := h.later hB h.lt

theorem Blk.alloc {w : World} {b : Nat} {cs : Array Value} (h : Blk w b cs) (o : Obj) : Blk (w.alloc o) b cs := h.on ((Below.refl _ _).alloc (Nat.le_refl _) o)

theorem Blk.drewN {w : World} {b : Nat} {cs : Array Value} (h : Blk w b cs) (n : Nat) : Blk (w.drewN n) b cs := h.on (bdN0 (Below.refl _ _) n)

theorem Blk.drew {w : World} {b : Nat} {cs : Array Value} (h : Blk w b cs) : Blk w.drew b cs := h.on (Below.refl _ _).drew

theorem Blk.set {w : World} {b : Nat} {cs : Array Value} (h : Blk w b cs) (i : Nat) (v : Value) : Blk (w.setCell ⟨b, i, none⟩ v) b (cs.setIfInBounds i v) := by
  obtain ⟨t, h⟩ := h
  exact ⟨t, Go.Joins.block_setCell h v⟩

theorem Blk.other {w : World} {b : Nat} {cs : Array Value} (h : Blk w b cs) (c i : Nat) (v : Value) (hb : b ≠ c) : Blk (w.setCell ⟨c, i, none⟩ v) b cs := by
  obtain ⟨t, h⟩ := h
  refine ⟨t, ?_⟩
  rw [← h]
  simp only [World.setCell]
  rw [Array.getElem?_modify, if_neg (fun e => hb e.symm)]

end
section
open Go.RowKit Go.PlainAid
set_option maxRecDepth 100000 in
set_option maxHeartbeats 2000000 in
theorem check_any (neg : Bool) (ds : ByteArray) (sc : Int) (w : World) :
    Calls Tryz.prog 28 #[.agg #[.bool neg, .string ds, .int .i64 sc]] w fun e w' => e = .returned (.int .i64 (errB (rightB neg ds sc))) ∧ Below w.heap.size w w' := by
  have hb := get_bt ds
  have hB := (Below.refl w.heap.size w).alloc (Nat.le_refl _) (.cells #[.bool neg, .string ds, .int .i64 sc] 23)
  by_cases hpre : 1 ≤ ds.size ∧ ds.size ≤ 400 ∧ 0 ≤ sc ∧ sc ≤ 400 ∧ ¬ (bt ds 0 = 48 ∧ (1 < ds.size ∨ neg = true))
  · obtain ⟨h1, h2, h3, h4, h5⟩ := hpre
    have H5 := Lib.hid h5
    by_cases h0 : bt ds 0 = 48
    · have hn : neg = false := by cases neg with
        | true => exact absurd ⟨h0, .inr rfl⟩ h5
        | false => rfl
      have hz : ¬ 1 < ds.size := fun g => h5 ⟨h0, .inl g⟩
      have h6 : (bt ds 0 == 48) = true := by simpa using h0
      clear h5 h0
      subst hn
      go_enter Tryz.func28, Tryz.ntmps28
      go_wp2
      go_loop [4] (fun i => ∃ pos : Nat, i = .int .i64 pos ∧ pos ≤ ds.size ∧ ∀ k, k < pos → 48 ≤ bt ds k ∧ bt ds k ≤ 57) (fun i => ds.size - (intOf i).toNat)
      case atStart => exact ⟨0, rfl, Nat.zero_le _, fun k hk => absurd hk (by omega)⟩
      case round =>
        obtain ⟨pos, rfl, hle, hall⟩ := hrel
        have HA := Lib.hid hall; clear hall
        by_cases hp : pos < ds.size
        · by_cases hd : 48 ≤ bt ds pos ∧ bt ds pos ≤ 57
          · obtain ⟨hd1, hd2⟩ := hd
            go_wp2
            go_round
            case rel => exact ⟨pos + 1, by go_num, by omega, fun k hk => by by_cases e : k = pos; { subst e; exact ⟨hd1, hd2⟩ }; exact HA.out k (by omega)⟩
            case measure => simp [intOf]; omega
          · by_cases hd1 : 48 ≤ bt ds pos
            all_goals
              go_wp2
              go_ret
              exact ⟨ret_int (by rw [right_bad hp (by omega)]; rfl), hB⟩
        · go_wp2
          go_ret
          exact ⟨ret_int (by rw [right_yes h1 h2 h3 h4 H5.out (fun k hk => HA.out k (by omega))]; rfl), hB⟩
    · have h6 : (bt ds 0 == 48) = false := by simpa using h0
      clear h5 h0
      go_enter Tryz.func28, Tryz.ntmps28
      go_wp2
      go_loop [4] (fun i => ∃ pos : Nat, i = .int .i64 pos ∧ pos ≤ ds.size ∧ ∀ k, k < pos → 48 ≤ bt ds k ∧ bt ds k ≤ 57) (fun i => ds.size - (intOf i).toNat)
      case atStart => exact ⟨0, rfl, Nat.zero_le _, fun k hk => absurd hk (by omega)⟩
      case round =>
        obtain ⟨pos, rfl, hle, hall⟩ := hrel
        have HA := Lib.hid hall; clear hall
        by_cases hp : pos < ds.size
        · by_cases hd : 48 ≤ bt ds pos ∧ bt ds pos ≤ 57
          · obtain ⟨hd1, hd2⟩ := hd
            go_wp2
            go_round
            case rel => exact ⟨pos + 1, by go_num, by omega, fun k hk => by by_cases e : k = pos; { subst e; exact ⟨hd1, hd2⟩ }; exact HA.out k (by omega)⟩
            case measure => simp [intOf]; omega
          · by_cases hd1 : 48 ≤ bt ds pos
            all_goals
              go_wp2
              go_ret
              exact ⟨ret_int (by rw [right_bad hp (by omega)]; rfl), hB⟩
        · go_wp2
          go_ret
          exact ⟨ret_int (by rw [right_yes h1 h2 h3 h4 H5.out (fun k hk => HA.out k (by omega))]; rfl), hB⟩
  · have HN := Lib.hid (right_no (neg := neg) hpre)
    by_cases h0 : 1 ≤ ds.size ∧ ds.size ≤ 400 ∧ 0 ≤ sc ∧ sc ≤ 400
    · have h5 : bt ds 0 = 48 ∧ (1 < ds.size ∨ neg = true) := Classical.byContradiction fun g => hpre ⟨h0.1, h0.2.1, h0.2.2.1, h0.2.2.2, g⟩
      obtain ⟨h1, h2, h3, h4⟩ := h0
      obtain ⟨h6, h7⟩ := h5
      have h6 : (bt ds 0 == 48) = true := by simpa using h6
      clear hpre
      by_cases h8 : 1 < ds.size
      · clear h7
        go_enter Tryz.func28, Tryz.ntmps28
        go_wp2
        go_ret
        exact ⟨ret_int (by rw [HN.out]; rfl), hB⟩
      · have hn : neg = true := by rcases h7 with h7 | h7
                                   · exact absurd h7 h8
                                   · exact h7
        subst hn
        clear h7
        go_enter Tryz.func28, Tryz.ntmps28
        go_wp2
        go_ret
        exact ⟨ret_int (by rw [HN.out]; rfl), hB⟩
    · clear hpre
      by_cases h1 : ds.size < 1
      · go_enter Tryz.func28, Tryz.ntmps28
        go_wp2
        go_ret
        exact ⟨ret_int (by rw [HN.out]; rfl), hB⟩
      by_cases h2 : 400 < ds.size
      · go_enter Tryz.func28, Tryz.ntmps28
        go_wp2
        go_ret
        exact ⟨ret_int (by rw [HN.out]; rfl), hB⟩
      by_cases h3 : sc < 0
      · go_enter Tryz.func28, Tryz.ntmps28
        go_wp2
        go_ret
        exact ⟨ret_int (by rw [HN.out]; rfl), hB⟩
      have h4 : 400 < sc := by omega
      go_enter Tryz.func28, Tryz.ntmps28
      go_wp2
      go_ret
      exact ⟨ret_int (by rw [HN.out]; rfl), hB⟩

set_option maxRecDepth 100000 in
set_option maxHeartbeats 2000000 in
theorem rRight_any (neg : Bool) (ds : ByteArray) (sc : Int) (w : World) :
    Calls Tryz.prog 26 #[.agg #[.bool neg, .string ds, .int .i64 sc]] w fun e w' => e = .returned (.bool (rightB neg ds sc)) ∧ Below w.heap.size w w' := by
  have hb := get_bt ds
  have hB := (Below.refl w.heap.size w).alloc (Nat.le_refl _) (.cells #[.bool neg, .string ds, .int .i64 sc] 23)
  by_cases h0 : 1 ≤ ds.size ∧ ds.size ≤ 400 ∧ 0 ≤ sc ∧ sc ≤ 400
  · obtain ⟨h1, h2, h3, h4⟩ := h0
    go_enter Tryz.func26, Tryz.ntmps26
    go_wp2
    go_loop [4] (fun i => ∃ pos : Nat, i = .int .i64 pos ∧ pos ≤ ds.size ∧ ∀ k, k < pos → 48 ≤ bt ds k ∧ bt ds k ≤ 57) (fun i => ds.size - (intOf i).toNat)
    case atStart => exact ⟨0, rfl, Nat.zero_le _, fun k hk => absurd hk (by omega)⟩
    case round =>
      obtain ⟨pos, rfl, hle, hall⟩ := hrel
      have HA := Lib.hid hall; clear hall
      by_cases hp : pos < ds.size
      · by_cases hd : 48 ≤ bt ds pos ∧ bt ds pos ≤ 57
        · obtain ⟨hd1, hd2⟩ := hd
          go_wp2
          go_round
          case rel => exact ⟨pos + 1, by go_num, by omega, fun k hk => by by_cases e : k = pos; { subst e; exact ⟨hd1, hd2⟩ }; exact HA.out k (by omega)⟩
          case measure => simp [intOf]; omega
        · by_cases hd1 : 48 ≤ bt ds pos
          all_goals
            go_wp2
            go_ret
            exact ⟨ret_bool (by rw [right_bad hp (by omega)]), hB⟩
      · have hall : ∀ k, k < ds.size → 48 ≤ bt ds k ∧ bt ds k ≤ 57 := fun k hk => HA.out k (by omega)
        have HALL := Lib.hid hall; clear hall
        by_cases h6 : bt ds 0 = 48
        · have h7 : (bt ds 0 == 48) = true := by simpa using h6
          by_cases h8 : 1 < ds.size
          · have HN := Lib.hid (right_no (neg := neg) (ds := ds) (scale := sc) (fun g => g.2.2.2.2 ⟨h6, .inl h8⟩))
            clear h6
            go_wp2
            go_ret
            exact ⟨ret_bool (by rw [HN.out]; first | done | rfl | (simp; done) | (simp; omega)), hB⟩
          · cases neg with
            | true =>
              have HN := Lib.hid (right_no (neg := true) (ds := ds) (scale := sc) (fun g => g.2.2.2.2 ⟨h6, .inr rfl⟩))
              clear h6
              go_wp2
              go_ret
              exact ⟨ret_bool (by rw [HN.out]; first | done | rfl | (simp; done) | (simp; omega)), hB⟩
            | false =>
              have HN := Lib.hid (right_yes (neg := false) (ds := ds) (scale := sc) h1 h2 h3 h4 (fun g => by rcases g.2 with g | g; { exact h8 g }; cases g) HALL.out)
              clear h6
              go_wp2
              go_ret
              exact ⟨ret_bool (by rw [HN.out]; first | done | rfl | (simp; done) | (simp; omega)), hB⟩
        · have h7 : (bt ds 0 == 48) = false := by simpa using h6
          have HN := Lib.hid (right_yes (neg := neg) (ds := ds) (scale := sc) h1 h2 h3 h4 (fun g => h6 g.1) HALL.out)
          clear h6
          go_wp2
          go_ret
          exact ⟨ret_bool (by rw [HN.out]; first | done | rfl | (simp; done) | (simp; omega)), hB⟩
  · have HN := Lib.hid (right_no (neg := neg) (ds := ds) (scale := sc) (fun g => h0 ⟨g.1, g.2.1, g.2.2.1, g.2.2.2.1⟩))
    by_cases h1 : ds.size < 1
    · go_enter Tryz.func26, Tryz.ntmps26
      go_wp2
      go_ret
      exact ⟨ret_bool (by rw [HN.out]; first | done | rfl | (simp; done) | (simp; omega)), hB⟩
    by_cases h2 : 400 < ds.size
    · go_enter Tryz.func26, Tryz.ntmps26
      go_wp2
      go_ret
      exact ⟨ret_bool (by rw [HN.out]; first | done | rfl | (simp; done) | (simp; omega)), hB⟩
    by_cases h3 : sc < 0
    · go_enter Tryz.func26, Tryz.ntmps26
      go_wp2
      go_ret
      exact ⟨ret_bool (by rw [HN.out]; first | done | rfl | (simp; done) | (simp; omega)), hB⟩
    have h4 : 400 < sc := by omega
    clear h0
    go_enter Tryz.func26, Tryz.ntmps26
    go_wp2
    go_ret
    exact ⟨ret_bool (by rw [HN.out]; first | done | rfl | (simp; done) | (simp; omega)), hB⟩

end
section
open Go.RowKit Go.PlainAid
theorem allDig_mem {s : ByteArray} : AllDig s ↔ ∀ b ∈ s.data.toList, 48 ≤ b.toNat ∧ b.toNat ≤ 57 := by
  constructor
  · intro h b hb
    obtain ⟨k, hk, e⟩ := List.getElem_of_mem hb
    have hk' : k < s.size := by rw [Lib.size_eq]; exact hk
    have := h k hk'
    rw [← get_bt s k hk'] at this
    have e2 : s[k]'hk' = b := e
    rw [e2] at this
    omega
  · intro h k hk
    rw [← get_bt s k hk]
    have := h (s[k]'hk) (by
      have : (s[k]'hk) = s.data.toList[k]'(by rw [← Lib.size_eq]; exact hk) := rfl
      rw [this]; exact List.getElem_mem _)
    omega

/-- A text without the noughts ahead. -/
def noNought (s : ByteArray) : ByteArray := ⟨(Lib.trimLeftB s.data.toList 48).toArray⟩

theorem noNought_list (s : ByteArray) : (noNought s).data.toList = s.data.toList.dropWhile (· == 48) := by simp [noNought, Lib.trimLeftB]

theorem dropWhile_head {l : List UInt8} {c : UInt8} : ∀ b m, l.dropWhile (· == c) = b :: m → b ≠ c := by
  intro b m h e
  subst e
  induction l with
  | nil => simp at h
  | cons x l ih =>
    rw [List.dropWhile_cons] at h
    split at h
    · exact ih h
    · rename_i hx
      simp only [List.cons.injEq] at h
      rw [h.1] at hx
      simp at hx

theorem mem_takeWhile {l : List UInt8} {p : UInt8 → Bool} : ∀ b, b ∈ l.takeWhile p → p b = true := by
  induction l with
  | nil => intro b h; simp at h
  | cons x l ih =>
    intro b h
    rw [List.takeWhile_cons] at h
    split at h
    · rename_i hx
      rcases List.mem_cons.1 h with rfl | h
      · exact hx
      · exact ih b h
    · simp at h

theorem dval_noNought (s : ByteArray) : dval (noNought s) = dval s := by
  have h := List.takeWhile_append_dropWhile (p := (· == (48 : UInt8))) (l := s.data.toList)
  have hz : (s.data.toList.takeWhile (· == (48 : UInt8))).map (fun b => b.toNat - 48) = List.replicate (s.data.toList.takeWhile (· == (48 : UInt8))).length 0 := by
    rw [List.eq_replicate_iff]
    refine ⟨by simp, fun x hx => ?_⟩
    obtain ⟨b, hb, rfl⟩ := List.mem_map.1 hx
    have hb' := mem_takeWhile (p := (· == (48 : UInt8))) b hb
    have e : b = 48 := by simpa using hb'
    rw [e]
    rfl
  unfold dval dl
  rw [noNought_list]
  conv => rhs; rw [← h, List.map_append, hz, List.reverse_append, List.reverse_replicate, rowval_append, rowval_zeros]
  simp

theorem noNought_dig {s : ByteArray} (h : AllDig s) : AllDig (noNought s) :=
  allDig_mem.2 fun b hb => allDig_mem.1 h b (by rw [noNought_list] at hb; exact (List.dropWhile_suffix _).subset hb)

theorem noNought_head (s : ByteArray) (h : 0 < (noNought s).size) : bt (noNought s) 0 ≠ 48 := by
  rw [← get_bt _ 0 h]
  rw [Lib.size_eq] at h
  cases e : (noNought s).data.toList with
  | nil => rw [e] at h; simp at h
  | cons b m =>
    have e1 := e
    rw [noNought_list] at e1
    have hb := dropWhile_head b m e1
    have e2 : (noNought s)[0] = b := by
      have : (noNought s)[0] = (noNought s).data.toList[0]'(by rw [e]; simp) := rfl
      rw [this]
      simp [e]
    rw [e2]
    intro g
    exact hb (u8_eq g)

theorem noNought_some {s : ByteArray} (h : AllDig s) (h0 : 0 < (noNought s).size) : noNought s = digs (dval s) ∧ dval s ≠ 0 := by
  have h1 := noNought_head s h0
  have h2 := digs_of (noNought_dig h) h0 (fun _ => h1)
  rw [dval_noNought] at h2
  refine ⟨h2.symm, fun e => ?_⟩
  rw [e] at h2
  rw [← h2] at h1
  exact h1 (by decide +kernel)

theorem noNought_none {s : ByteArray} (h0 : (noNought s).size = 0) : dval s = 0 := by
  rw [← dval_noNought]
  have : (noNought s).data.toList = [] := List.eq_nil_of_length_eq_zero (by rw [← Lib.size_eq]; exact h0)
  unfold dval dl
  rw [this]
  rfl

theorem digs_zero : digs 0 = ⟨#[48]⟩ := by decide +kernel

theorem isEmpty_of (s : ByteArray) (h : s.size = 0) : s.toList.isEmpty = true := by
  rw [Lib.toList_data]; rw [Lib.size_eq] at h
  cases e : s.data.toList <;> simp_all

theorem isEmpty_not (s : ByteArray) (h : s.size ≠ 0) : s.toList.isEmpty = false := by
  rw [Lib.toList_data]; rw [Lib.size_eq] at h
  cases e : s.data.toList <;> simp_all

set_option maxRecDepth 100000 in
set_option maxHeartbeats 1000000 in
theorem made_any (neg : Bool) (s : ByteArray) (sc : Int) (w : World) (hd : AllDig s) :
    Calls Tryz.prog 57 #[.bool neg, .string s, .int .i64 sc] w fun e w' => e = .returned (decE (madeR neg (dval s) sc)) ∧ Below w.heap.size w w' := by
  have c := fun w => Tryz.strings_TrimLeft_one s 48 (by decide) w
  change ∀ w, Calls _ _ _ _ (fun e w' => e = .returned (.string (noNought s)) ∧ w' = w) at c
  by_cases h0 : (noNought s).size = 0
  · have hv := noNought_none h0
    have hne := isEmpty_of _ h0
    have HR := Lib.hid (show madeR neg (dval s) sc = if 400 < sc then (false, ⟨#[]⟩, 0, 3) else (false, ⟨#[48]⟩, sc, 0) by
      unfold madeR
      rw [hv, digs_zero]
      by_cases h : 400 < sc
      · rw [if_pos (.inr h), if_pos h]
      · rw [if_neg (fun g => by rcases g with g | g; { exact absurd g (by decide) }; exact h g), if_neg h]
        simp)
    clear hv h0
    generalize noNought s = t at *
    by_cases h4 : 400 < sc
    · go_enter Tryz.func57, Tryz.ntmps57
      go_wp2_with (go_at_call 85; refine (c _).mono ?_; rintro e w' ⟨rfl, rfl⟩)
      go_returns
      exact ⟨ret_val (by rw [HR.out, if_pos h4]), (Below.refl _ w).alloc (Nat.le_refl _) _⟩
    · go_enter Tryz.func57, Tryz.ntmps57
      go_wp2_with (go_at_call 85; refine (c _).mono ?_; rintro e w' ⟨rfl, rfl⟩)
      go_returns
      exact ⟨ret_val (by rw [HR.out, if_neg (by omega)]), (Below.refl _ w).alloc (Nat.le_refl _) _⟩
  · obtain ⟨h1, h2⟩ := noNought_some hd (by omega)
    have hne := isEmpty_not _ h0
    have HR := Lib.hid (show madeR neg (dval s) sc = if 400 < (noNought s).size ∨ 400 < sc then (false, ⟨#[]⟩, 0, 3) else (neg, noNought s, sc, 0) by
      unfold madeR
      rw [← h1]
      have : (dval s != 0) = true := by simpa using h2
      rw [this, Bool.and_true])
    clear h1 h2 h0
    generalize noNought s = t at *
    by_cases h3 : 400 < t.size
    · go_enter Tryz.func57, Tryz.ntmps57
      go_wp2_with (go_at_call 85; refine (c _).mono ?_; rintro e w' ⟨rfl, rfl⟩)
      go_returns
      exact ⟨ret_val (by rw [HR.out, if_pos (.inl h3)]), (Below.refl _ w).alloc (Nat.le_refl _) _⟩
    by_cases h4 : 400 < sc
    · go_enter Tryz.func57, Tryz.ntmps57
      go_wp2_with (go_at_call 85; refine (c _).mono ?_; rintro e w' ⟨rfl, rfl⟩)
      go_returns
      exact ⟨ret_val (by rw [HR.out, if_pos (.inr h4)]), (Below.refl _ w).alloc (Nat.le_refl _) _⟩
    · go_enter Tryz.func57, Tryz.ntmps57
      go_wp2_with (go_at_call 85; refine (c _).mono ?_; rintro e w' ⟨rfl, rfl⟩)
      go_returns
      exact ⟨ret_val (by rw [HR.out, if_neg (by omega)]), (Below.refl _ w).alloc (Nat.le_refl _) _⟩

end
end Go.Proofs.YtgbemhehbhlgpaaGreatDoor
