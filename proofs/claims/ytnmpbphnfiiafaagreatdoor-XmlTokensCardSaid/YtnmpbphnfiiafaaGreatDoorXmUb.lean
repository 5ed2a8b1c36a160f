/-
  Laws and contracts taken over from earlier texts (cut out by a program of this seat's own, slice.py), as far as this seat needs them.
-/
import Derived.Test.YtnmpbphnfiiafaaGreatDoorXmUa
namespace Go.Proofs.YtnmpbphnfiiafaaGreatDoor
section
open Go.RowKit Go.PlainAid Go.Lib
/-- The two tables of unicode/utf8 as their initialisers lay them. -/
abbrev Tabs (w : World) : Prop := Lib.Utf8Tabs 0 1 w

theorem Tabs.below {B : Nat} {w w' : World} (h : Tabs w) (hB : 2 ≤ B) (hb : Below B w w') : Tabs w' :=
  ⟨fun c hc => (hb.cell (p := ⟨0, c, none⟩) (by show 0 < B; omega)).trans (h.1 c hc),
   fun i hi => ⟨(hb.cell (p := ⟨1, 2 * i, none⟩) (by show 1 < B; omega)).trans (h.2 i hi).1, (hb.cell (p := ⟨1, 2 * i + 1, none⟩) (by show 1 < B; omega)).trans (h.2 i hi).2⟩⟩

theorem Tabs.two {w : World} (h : Tabs w) : 2 ≤ w.heap.size := by
  have h1 := (h.2 0 (by omega)).1
  have h0 := h.1 0 (by omega)
  by_cases e1 : 1 < w.heap.size
  · by_cases e0 : 0 < w.heap.size
    · omega
    · exfalso
      have : w.heap[0]? = none := Array.getElem?_eq_none (by omega)
      simp [World.cell?, this] at h0
  · exfalso
    have : w.heap[1]? = none := Array.getElem?_eq_none (by omega)
    simp [World.cell?, this] at h1

/-- The tables stand in every later world. -/
theorem Tabs.later {w w' : World} (h : Tabs w) (hb : Below w.heap.size w w') : Tabs w' := h.below h.two hb

theorem bt_extract (s : ByteArray) (i k : Nat) : bt (s.extract i s.size) k = bt s (i + k) := by
  unfold bt
  by_cases h : i + k < s.size
  · rw [dif_pos (by simp; omega), dif_pos h]
    simp [ByteArray.getElem_extract]
  · rw [dif_neg (by simp; omega), dif_neg h]

theorem formS_extract (s : ByteArray) (i : Nat) : formS (s.extract i s.size) 0 = formS s i := by
  unfold formS
  rw [bt_extract, bt_extract, bt_extract, bt_extract]
  have : (s.extract i s.size).size - 0 = s.size - i := by simp
  rw [this]
  rfl

set_option maxRecDepth 100000 in
set_option maxHeartbeats 1000000 in
/-- utf.At at every text and place. -/
theorem at_any (s : ByteArray) (i : Int) (w : World) (hT : Tabs w) :
    Calls Tryz.prog 78 #[.string s, .int .i64 i] w fun e w' => e = .returned (.tuple #[.int .i32 (formZ s i).1, .int .i64 (formZ s i).2]) ∧ Below w.heap.size w w' := by
  by_cases h : i < 0 ∨ (s.size : Int) ≤ i
  · have hf : formZ s i = (-1, 0) := by unfold formZ; rw [if_pos h]
    have H := Lib.hid hf; clear hf
    by_cases h2 : i < 0
    all_goals
      go_enter Tryz.func78, Tryz.ntmps78
      go_wp2
      go_ret2
      exact ⟨ret2p H.out, Below.refl _ _⟩
  · have hf : formZ s i = formS s i.toNat := by unfold formZ; rw [if_neg h]
    obtain ⟨k, rfl⟩ := Int.eq_ofNat_of_zero_le (show 0 ≤ i by omega)
    rw [hf]; clear hf
    have hk : k < s.size := by omega
    have hd : decodeGo (s.extract k s.size) = Utf8.decode (s.extract k s.size) 0 := by
      unfold decodeGo; rw [if_neg (by simp; omega)]
    have c := Tryz.utf8_DecodeRuneInString (s.extract k s.size) w hT
    rw [hd] at c
    have hb := broke_decode (s.extract k s.size) 0
    rw [formS_extract s k] at hb
    show Calls _ _ _ _ fun e w' => e = .returned (.tuple #[.int .i32 (formS s k).1, .int .i64 (formS s k).2]) ∧ Below w.heap.size w w'
    rcases hde : Utf8.decode (s.extract k s.size) 0 with ⟨d, e⟩
    rw [hde] at c hb
    clear hde hd
    unfold broke at hb
    by_cases hq : d = 65533 ∧ e = 1
    · rw [if_pos hq] at hb
      obtain ⟨rfl, rfl⟩ := hq
      have H := Lib.hid hb; clear hb
      go_enter Tryz.func78, Tryz.ntmps78
      go_wp2_with (go_at_call 101; refine c.mono ?_; rintro e w' ⟨rfl, hB⟩)
      go_ret2
      exact ⟨ret2p H.out.symm, hB⟩
    · rw [if_neg hq] at hb
      have H := Lib.hid hb; clear hb
      by_cases h1 : d = 65533
      · have h2 : ((e : Int) == 1) = false := by simp; omega
        have h1' : ((d : Int) == 65533) = true := by simp; omega
        clear h1
        go_enter Tryz.func78, Tryz.ntmps78
        go_wp2_with (go_at_call 101; refine c.mono ?_; rintro e w' ⟨rfl, hB⟩)
        go_ret2
        exact ⟨ret2p H.out.symm, hB⟩
      · have h1' : ((d : Int) == 65533) = false := by simp; omega
        clear h1
        go_enter Tryz.func78, Tryz.ntmps78
        go_wp2_with (go_at_call 101; refine c.mono ?_; rintro e w' ⟨rfl, hB⟩)
        go_ret2
        exact ⟨ret2p H.out.symm, hB⟩

end
section
open Go.RowKit Go.PlainAid Go.Lib
set_option maxRecDepth 100000 in
set_option maxHeartbeats 1000000 in
theorem rBroken_any (s : ByteArray) (w : World) (hs : s.size ≤ 1000000000000000) :
    Calls Tryz.prog 31 #[.string s] w fun e w' => e = .returned (.int .i64 (brk s 0)) ∧ w = w' := by
  go_enter Tryz.func31, Tryz.ntmps31
  go_wp2
  go_loop [3] (fun i => ∃ (pos : Nat), i = .int .i64 pos ∧ brk s 0 = brk s pos ∧ pos ≤ s.size) (fun i => s.size - (Go.RowKit.intOf i).toNat)
  case atStart => exact ⟨0, rfl, rfl, Nat.zero_le _⟩
  case round =>
    obtain ⟨pos, rfl, hc, hle⟩ := hrel
    have HC := Lib.hid hc; clear hc
    by_cases hp : pos < s.size
    · have hwd := wd_pos s pos hp
      have hin := wd_in s pos hp
      have hst := Lib.hid (brk_step s pos hp)
      have c := rForm_in s pos hs hp w
      rw [formS_wd] at c
      change Calls _ _ _ _ (fun e w' => e = .returned (.tuple #[.int .i32 (rn s pos), .int .i64 (wd s pos)]) ∧ w = w') at c
      by_cases hn : rn s pos < 0
      · go_wp2_with (go_at_call 49; refine c.mono ?_; rintro e w' ⟨rfl, rfl⟩)
        go_ret
        exact ⟨ret_int (by rw [HC.out, hst.out, if_pos (by omega)]), rfl⟩
      · go_wp2_with (go_at_call 49; refine c.mono ?_; rintro e w' ⟨rfl, rfl⟩)
        go_round
        case rel => exact ⟨pos + wd s pos, by go_num, by rw [HC.out, hst.out, if_neg (by omega)], hin⟩
        case measure => simp [Go.RowKit.intOf]; omega
    · have hst := Lib.hid (brk_end s pos (by omega))
      go_wp2
      go_ret
      exact ⟨ret_int (by rw [HC.out, hst.out]), rfl⟩

/-- What Check hands back of the first broken byte's place. -/
def spotV (k : Int) : Value := if 0 ≤ k then .agg #[.int .i64 6, .int .i64 k] else .agg #[.int .i64 0, .int .i64 0]

def ChkI (s : ByteArray) (B : Bool) (L pos : Nat) : Prop :=
  (B = false → brk s 0 = brk s pos) ∧ (B = true → L < s.size ∧ pos = L + wd s L ∧ brk s 0 = brk s L ∧ (Utf8.decode s L).1 = 65533)

theorem chk_next {s : ByteArray} {L pos : Nat} (hp : pos < s.size) (h : ChkI s false L pos) : ChkI s (((Utf8.decode s pos).1 : Int) == 65533) pos (pos + wd s pos) := by
  have h0 := h.1 rfl
  refine ⟨fun hb => ?_, fun hb => ⟨hp, rfl, h0, ?_⟩⟩
  · rw [h0, brk_step s pos hp, if_neg]
    intro hr
    have := (rn_broken s pos).1 hr
    simp [this.1] at hb
  · have := beq_iff_eq.1 hb
    omega

theorem chk_past {s : ByteArray} {L pos : Nat} (h : ChkI s true L pos) (h1 : pos - L ≠ 1) : ChkI s false L pos := by
  obtain ⟨hL, rfl, h0, _⟩ := h.2 rfl
  refine ⟨fun _ => ?_, fun hb => by cases hb⟩
  rw [h0, brk_step s L hL, if_neg]
  intro hr
  have := (rn_broken s L).1 hr
  omega

theorem chk_hit {s : ByteArray} {L pos : Nat} (h : ChkI s true L pos) (h1 : pos - L = 1) : spotV (brk s 0) = .agg #[.int .i64 6, .int .i64 L] := by
  obtain ⟨hL, rfl, h0, h2⟩ := h.2 rfl
  have : rn s L < 0 := (rn_broken s L).2 ⟨h2, by omega⟩
  rw [h0, brk_step s L hL, if_pos this]
  unfold spotV
  rw [if_pos (by omega)]

theorem chk_end {s : ByteArray} {L pos : Nat} (hp : ¬ pos < s.size) (h : ChkI s false L pos) : spotV (brk s 0) = .agg #[.int .i64 0, .int .i64 0] := by
  rw [h.1 rfl, brk_end s pos (by omega)]
  rfl

theorem ret_val {a b : Value} (h : b = a) : Ending.returned a = .returned b := by rw [h]

set_option maxRecDepth 100000 in
set_option maxHeartbeats 1000000 in
theorem check_any (s : ByteArray) (w : World) (hs : s.size ≤ 1000000000000000) :
    Calls Tryz.prog 38 #[.string s] w fun e w' => e = .returned (spotV (brk s 0)) ∧ Below w.heap.size w w' := by
  go_enter Tryz.func38, Tryz.ntmps38
  go_wp2
  have hsz : (w.alloc (.cells #[.int .i64 0, .int .i64 0] 26)).heap.size = w.heap.size + 1 := World.size_alloc _ _
  go_loopw [3, 4] (fun l b w' => ∃ (L pos : Nat) (B : Bool), w' = (w.alloc (.cells #[.int .i64 0, .int .i64 0] 26)).alloc (.stringIter s pos) ∧ l = .int .i64 L ∧ b = .bool B ∧ L ≤ pos ∧ pos ≤ s.size ∧ ChkI s B L pos) (fun _ _ w' => s.size - w'.iterPos (w.heap.size + 1))
  case atStart => exact ⟨0, 0, false, rfl, rfl, rfl, Nat.le_refl _, Nat.zero_le _, fun _ => rfl, fun h => by cases h⟩
  case round =>
    obtain ⟨L, pos, B, rfl, rfl, rfl, hL, hle, hI⟩ := hrel
    by_cases hp : pos < s.size
    · have hnx := next_at (P := Tryz.prog) hsz s pos hp
      have hwd := wd_pos s pos hp
      have hin := wd_in s pos hp
      have hst := Lib.hid (brk_step s pos hp)
      have HI := Lib.hid hI; clear hI
      have hm : s.size - (((w.alloc (.cells #[.int .i64 0, .int .i64 0] 26)).alloc (.stringIter s (pos + wd s pos))).iterPos (w.heap.size + 1)) < s.size - (((w.alloc (.cells #[.int .i64 0, .int .i64 0] 26)).alloc (.stringIter s pos)).iterPos (w.heap.size + 1)) := by
        rw [iterPos_at hsz, iterPos_at hsz]; omega
      have HM := Lib.hid hm; clear hm
      cases B with
      | false =>
        go_wp2
        go_roundw
        case rel => exact ⟨pos, pos + wd s pos, _, rfl, rfl, rfl, by omega, hin, chk_next hp HI.out⟩
        case measure => exact HM.out
      | true =>
        by_cases h1 : pos - L = 1
        · have h1' : ((pos : Int) - (L : Int) == 1) = true := by simp; omega
          go_wp2
          go_returns
          exact ⟨ret_val (chk_hit HI.out h1), ((Below.refl _ w).alloc (Nat.le_refl _) _).alloc (by simp) _⟩
        · have h1' : ((pos : Int) - (L : Int) == 1) = false := by simp; omega
          go_wp2
          go_roundw
          case rel => exact ⟨pos, pos + wd s pos, _, rfl, rfl, rfl, by omega, hin, chk_next hp (chk_past HI.out h1)⟩
          case measure => exact HM.out
    · have hnx := next_end (P := Tryz.prog) hsz s pos hp
      have HI := Lib.hid hI; clear hI
      cases B with
      | false =>
        go_wp2
        go_returns
        exact ⟨ret_val (chk_end hp HI.out), ((Below.refl _ w).alloc (Nat.le_refl _) _).alloc (by simp) _⟩
      | true =>
        by_cases h1 : s.size - L = 1
        · have h1' : ((s.size : Int) - (L : Int) == 1) = true := by simp; omega
          go_wp2
          go_returns
          exact ⟨ret_val (chk_hit HI.out (by omega)), ((Below.refl _ w).alloc (Nat.le_refl _) _).alloc (by simp) _⟩
        · have h1' : ((s.size : Int) - (L : Int) == 1) = false := by simp; omega
          go_wp2
          go_returns
          exact ⟨ret_val (chk_end hp (chk_past HI.out (by omega))), ((Below.refl _ w).alloc (Nat.le_refl _) _).alloc (by simp) _⟩

end
section
open Go.RowKit Go.PlainAid
theorem blank_all : ∀ n : Fin 256, decide (0 ≤ Lib.indexByte [9, 10, 13, 32] ((n.val : Int).toNat.toUInt8)) = bBlank (n.val : Int) := by decide +kernel

theorem blank_at (b : Int) (h0 : 0 ≤ b) (h1 : b < 256) : decide (0 ≤ Lib.indexByte [9, 10, 13, 32] b.toNat.toUInt8) = bBlank b := by
  have := blank_all ⟨b.toNat, by omega⟩
  simpa [Int.toNat_of_nonneg h0] using this

set_option maxRecDepth 100000 in
set_option maxHeartbeats 400000 in
theorem blank_any (b : Int) (h0 : 0 ≤ b) (h1 : b < 256) (w : World) :
    Calls Tryz.prog 88 #[.int .u8 b] w fun e w' => e = .returned (.bool (bBlank b)) ∧ w = w' := by
  have H := Lib.hid (blank_at b h0 h1)
  have c := Tryz.strings_IndexByte ⟨#[9, 10, 13, 32]⟩ b w
  change Calls _ _ _ _ (fun e w' => e = .returned (.int .i64 (Lib.indexByte [9, 10, 13, 32] b.toNat.toUInt8)) ∧ w' = w) at c
  generalize Lib.indexByte [9, 10, 13, 32] b.toNat.toUInt8 = r at c H
  go_enter Tryz.func88, Tryz.ntmps88
  go_wp2_with (go_at_call 98; refine c.mono ?_; rintro e w' ⟨rfl, rfl⟩)
  go_ret
  exact ⟨ret_bool H.out, rfl⟩

/-- All bytes of a text are of one kind. -/
def allB (p : Int → Bool) (s : ByteArray) : Bool := decide (∀ k, k < s.size → p (bt s k) = true)

theorem allB_true {p : Int → Bool} {s : ByteArray} (h : ∀ k, k < s.size → p (bt s k) = true) : allB p s = true := decide_eq_true h

theorem allB_false {p : Int → Bool} {s : ByteArray} {k : Nat} (hk : k < s.size) (h : p (bt s k) = false) : allB p s = false :=
  decide_eq_false fun g => by rw [g k hk] at h; cases h

def wordB (p : Int → Bool) (s : ByteArray) : Bool := allB p s && decide (s.size ≠ 0)

theorem wordB_pos {p : Int → Bool} {s : ByteArray} (h : wordB p s = true) : 0 < s.size := by
  unfold wordB at h
  rw [Bool.and_eq_true] at h
  have := of_decide_eq_true h.2
  omega

def nameB (s : ByteArray) : Bool := allB bByte s && decide (s.size ≠ 0) && bStart (bt s 0)

theorem ne_empty (s : ByteArray) : (!s.toList.isEmpty) = decide (s.size ≠ 0) := by
  rw [Lib.toList_data, Lib.size_eq]
  cases s.data.toList <;> simp

set_option maxRecDepth 100000 in
set_option maxHeartbeats 1000000 in
theorem allName_any (s : ByteArray) (w : World) (hs : s.size ≤ 1000000000000000) :
    Calls Tryz.prog 131 #[.string s, .func (.func 90) #[] #[]] w fun e w' => e = .returned (.bool (wordB bByte s)) ∧ w = w' := by
  have hb := get_bt s
  have H := Lib.hid (ne_empty s)
  go_enter Tryz.func131, Tryz.ntmps131
  go_wp2
  go_loop [8] (fun i => ∃ (pos : Nat), i = .int .i64 pos ∧ pos ≤ s.size ∧ ∀ k, k < pos → bByte (bt s k) = true) (fun i => s.size - (Go.RowKit.intOf i).toNat)
  case atStart => exact ⟨0, rfl, Nat.zero_le _, fun k hk => absurd hk (by omega)⟩
  case round =>
    obtain ⟨pos, rfl, hle, hall⟩ := hrel
    have HA := Lib.hid hall; clear hall
    by_cases hp : pos < s.size
    · have l0 := bt_nonneg s pos; have u0 := bt_le s pos
      have c := nameByte_any (bt s pos) l0 (by omega) w
      cases hB : bByte (bt s pos) with
      | false =>
        rw [hB] at c
        have HB := Lib.hid hB; clear hB
        go_wp2_with (go_at_call 90; refine c.mono ?_; rintro e w' ⟨rfl, rfl⟩)
        go_ret
        exact ⟨ret_bool (by unfold wordB; rw [allB_false hp HB.out]; rfl), rfl⟩
      | true =>
        rw [hB] at c
        have HB := Lib.hid hB; clear hB
        go_wp2_with (go_at_call 90; refine c.mono ?_; rintro e w' ⟨rfl, rfl⟩)
        go_round
        case rel => exact ⟨pos + 1, by go_num, by omega, fun k hk => by by_cases e : k = pos; { subst e; exact HB.out }; exact HA.out k (by omega)⟩
        case measure => simp [Go.RowKit.intOf]; omega
    · go_wp2
      go_ret
      refine ⟨ret_bool ?_, rfl⟩
      unfold wordB
      rw [H.out, allB_true (fun k hk => HA.out k (by omega))]
      rfl

theorem nameB_eq (s : ByteArray) : nameB s = (wordB bByte s && bStart (bt s 0)) := rfl

set_option maxRecDepth 100000 in
set_option maxHeartbeats 1000000 in
theorem name_any (s : ByteArray) (w : World) (hs : s.size ≤ 1000000000000000) :
    Calls Tryz.prog 122 #[.string s] w fun e w' => e = .returned (.bool (nameB s)) ∧ w = w' := by
  have hb := get_bt s
  have c := allName_any s w hs
  have l0 := bt_nonneg s 0; have u0 := bt_le s 0
  have HE := Lib.hid (nameB_eq s)
  cases hW : wordB bByte s with
  | false =>
    rw [hW] at c
    have HW := Lib.hid hW; clear hW
    go_enter Tryz.func122, Tryz.ntmps122
    go_wp2_with (go_at_call 131; refine c.mono ?_; rintro e w' ⟨rfl, rfl⟩)
    go_ret
    exact ⟨ret_bool (by rw [HE.out, HW.out]; rfl), rfl⟩
  | true =>
    have hp := wordB_pos hW
    rw [hW] at c
    have HW := Lib.hid hW; clear hW
    go_enter Tryz.func122, Tryz.ntmps122
    go_wp2_with (first | (go_at_call 131; refine c.mono ?_; rintro e w' ⟨rfl, rfl⟩) | (go_at_call 89; refine (nameStart_any _ (by omega) (by omega) _).mono ?_; rintro e w' ⟨rfl, rfl⟩))
    go_ret
    exact ⟨ret_bool (by rw [HE.out, HW.out]; rfl), rfl⟩

def NameI (s : ByteArray) (pos : Nat) : Prop := (∀ k, k < pos → bByte (bt s k) = true) ∧ (0 < pos → bStart (bt s 0) = true)

theorem nameI_zero (s : ByteArray) : NameI s 0 := ⟨fun k hk => absurd hk (by omega), fun h => absurd h (by omega)⟩

theorem nameI_one {s : ByteArray} (h1 : bStart (bt s 0) = true) (h2 : bByte (bt s 0) = true) : NameI s 1 :=
  ⟨fun k hk => by obtain rfl : k = 0 := by omega
                  exact h2, fun _ => h1⟩

theorem nameI_succ {s : ByteArray} {pos : Nat} (h : NameI s pos) (h0 : pos ≠ 0) (h2 : bByte (bt s pos) = true) : NameI s (pos + 1) :=
  ⟨fun k hk => by
    by_cases e : k = pos
    · subst e; exact h2
    · exact h.1 k (by omega), fun _ => h.2 (by omega)⟩

theorem name_no1 {s : ByteArray} (h : bStart (bt s 0) = false) : nameB s = false := by unfold nameB; rw [h]; simp

theorem name_no2 {s : ByteArray} {pos : Nat} (hp : pos < s.size) (h : bByte (bt s pos) = false) : nameB s = false := by unfold nameB; rw [allB_false hp h]; rfl

set_option maxRecDepth 100000 in
set_option maxHeartbeats 1000000 in
theorem rName_any (s : ByteArray) (w : World) (hs : s.size ≤ 1000000000000000) :
    Calls Tryz.prog 82 #[.string s] w fun e w' => e = .returned (.bool (nameB s)) ∧ w = w' := by
  have hb := get_bt s
  have H := Lib.hid (ne_empty s)
  go_enter Tryz.func82, Tryz.ntmps82
  go_wp2
  go_loop [3] (fun i => ∃ (pos : Nat), i = .int .i64 pos ∧ pos ≤ s.size ∧ NameI s pos) (fun i => s.size - (Go.RowKit.intOf i).toNat)
  case atStart => exact ⟨0, rfl, Nat.zero_le _, nameI_zero s⟩
  case round =>
    obtain ⟨pos, rfl, hle, hI⟩ := hrel
    have HI := Lib.hid hI; clear hI
    by_cases hp : pos < s.size
    · have l0 := bt_nonneg s pos; have u0 := bt_le s pos
      have c := rByte_any (bt s pos) w
      have cS := rStart_any (bt s pos) w
      by_cases h0 : pos = 0
      · subst h0
        cases hS : bStart (bt s 0) with
        | false =>
          rw [hS] at cS
          have HB := Lib.hid hS; clear hS c
          go_wp2_with (go_at_call 85; refine cS.mono ?_; rintro e w' ⟨rfl, rfl⟩)
          go_ret
          exact ⟨ret_bool (name_no1 HB.out).symm, rfl⟩
        | true =>
          rw [hS] at cS
          have HC := Lib.hid hS; clear hS
          cases hB : bByte (bt s 0) with
          | false =>
            rw [hB] at c
            have HB := Lib.hid hB; clear hB
            go_wp2_with (first | (go_at_call 85; refine cS.mono ?_; rintro e w' ⟨rfl, rfl⟩) | (go_at_call 86; refine c.mono ?_; rintro e w' ⟨rfl, rfl⟩))
            go_ret
            exact ⟨ret_bool (name_no2 hp HB.out).symm, rfl⟩
          | true =>
            rw [hB] at c
            have HB := Lib.hid hB; clear hB
            go_wp2_with (first | (go_at_call 85; refine cS.mono ?_; rintro e w' ⟨rfl, rfl⟩) | (go_at_call 86; refine c.mono ?_; rintro e w' ⟨rfl, rfl⟩))
            go_round
            case rel => exact ⟨1, by go_num, by omega, nameI_one HC.out HB.out⟩
            case measure => simp [Go.RowKit.intOf]; omega
      · have h0' : ((pos : Int) == 0) = false := by simp; omega
        cases hB : bByte (bt s pos) with
        | false =>
          rw [hB] at c
          have HB := Lib.hid hB; clear hB
          go_wp2_with (go_at_call 86; refine c.mono ?_; rintro e w' ⟨rfl, rfl⟩)
          go_ret
          exact ⟨ret_bool (name_no2 hp HB.out).symm, rfl⟩
        | true =>
          rw [hB] at c
          have HB := Lib.hid hB; clear hB
          go_wp2_with (go_at_call 86; refine c.mono ?_; rintro e w' ⟨rfl, rfl⟩)
          go_round
          case rel => exact ⟨pos + 1, by go_num, by omega, nameI_succ HI.out h0 HB.out⟩
          case measure => simp [Go.RowKit.intOf]; omega
    · by_cases hz : s.size = 0
      · go_wp2
        go_ret
        refine ⟨ret_bool ?_, rfl⟩
        unfold nameB
        rw [H.out]
        simp [hz]
      · go_wp2
        go_ret
        refine ⟨ret_bool ?_, rfl⟩
        unfold nameB
        rw [H.out, allB_true (fun k hk => HI.out.1 k (by omega)), HI.out.2 (by omega)]
        simp

end
end Go.Proofs.YtnmpbphnfiiafaaGreatDoor
