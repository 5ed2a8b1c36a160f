/-
  Rules for numbers: whole numbers as decimals; what an operand's letter asks.
-/
import Derived.Test.YtgbemhehbhlgpaaGreatDoorPlW
import Derived.Test.YtgbemhehbhlgpaaGreatDoorPlK
import Derived.Lib.RuneCount
import Derived.Laws.RangeAny
namespace Go.Proofs.YtgbemhehbhlgpaaGreatDoor
open Go.RowKit Go.PlainAid

theorem pref_digs (n : Nat) : Lib.hasPrefix (digs n).data.toList [45] = false := by
  have hp := digs_pos n
  have hd := digs_dig n 0 hp
  have hb := get_bt (digs n) 0 hp
  unfold Lib.hasPrefix
  cases hc : (digs n).data.toList with
  | nil => rfl
  | cons c r =>
    have e : (digs n)[0] = c := by
      have e : (digs n).data.toList[0]'(by rw [hc]; simp) = (digs n)[0]'hp := rfl
      rw [← e]
      simp [hc]
    rw [e] at hb
    simp only [List.isPrefixOf, Bool.and_true, beq_eq_false_iff_ne, ne_eq]
    intro h
    subst h
    have : ((45 : UInt8).toNat : Int) = 45 := rfl
    omega
set_option maxRecDepth 100000 in
theorem of_nat (n : Nat) (hn : n ≤ 9223372036854775807) (w : World) (hP : PG w) : Calls Tryz.prog 30 #[.int .i64 (n : Int)] w fun e w' => e = .returned (.agg #[.bool false, .string (digs n), .int .i64 0]) ∧ Below w.heap.size w w' := by
  have hpf := pref_digs n
  have h2 : ∀ W : World, Calls Tryz.prog 49 #[.string (digs n), .string ⟨#[45]⟩] W fun e w' => e = .returned (.tuple #[.string (digs n), .bool false]) ∧ W = w' := fun W => by
    have h := Tryz.strings_CutPrefix (digs n) ⟨#[45]⟩ W
    have e2 : Lib.hasPrefix (digs n).data.toList (⟨#[45]⟩ : ByteArray).data.toList = false := hpf
    have e : (⟨(Lib.trimPrefix (digs n).data.toList (⟨#[45]⟩ : ByteArray).data.toList).toArray⟩ : ByteArray) = digs n := by
      unfold Lib.trimPrefix
      rw [e2]
      rfl
    rw [e, e2] at h
    exact h.mono fun _ _ ⟨a, b⟩ => ⟨a, b.symm⟩
  have hA := (Below.refl w.heap.size w).alloc (Nat.le_refl _) (.cells #[.bool false, .string ⟨#[]⟩, .int .i64 0] 23)
  have h1 := formatInt n hn (w.alloc (.cells #[.bool false, .string ⟨#[]⟩, .int .i64 0] 23)) (hP.on hA)
  have hR := Blk.new w #[.bool false, .string ⟨#[]⟩, .int .i64 0] 23
  generalize digs n = D at *
  clear hpf
  go_enter Tryz.func30, Tryz.ntmps30
  go_wp2_with fail
  refine h1.mono ?_
  rintro e w1 ⟨rfl, hB⟩
  have hR1 := hR.on hB
  have c0 := hR1.cell 0; have c1 := hR1.cell 1; have c2 := hR1.cell 2
  have f0 := hR1.free 0; have f1 := hR1.free 1; have f2 := hR1.free 2
  simp at c0 c1 c2
  go_wp2_with fail
  refine (h2 _).mono ?_
  rintro e w' ⟨rfl, rfl⟩
  go_wp2_with fail
  have hW := hA.trans (hB.mono hA.size)
  refine bodyPost_ret ?_ rfl ⟨rfl, ?_⟩
  · simp [results, Tryz.results30, go_sem, c0, c1, c2]
  · exact ((hW.setCell (p := ⟨w.heap.size, 0, none⟩) (Nat.le_refl _) _).setCell (p := ⟨w.heap.size, 1, none⟩) (Nat.le_refl _) _).setCell (p := ⟨w.heap.size, 2, none⟩) (Nat.le_refl _) _

/-- The function that asks an operand. -/
def opFn (o : Int) : Nat :=
  if o = 110 then 90 else if o = 105 then 91 else if o = 102 then 92
  else if o = 116 then 93 else if o = 118 then 94 else 95

set_option maxRecDepth 100000 in
set_option maxHeartbeats 4000000 in
theorem operand_yes (t : ByteArray) (o : Int) (w : World) (ho : opOf t = some o) :
    Calls Tryz.prog 65 #[.string t] w fun e w' => e = .returned (.func (.func (opFn o)) #[] #[]) ∧ Below w.heap.size w w' := by
  obtain ⟨h1, hl, rfl⟩ := opOf_low ho
  have hlo := of_decide_eq_true hl
  have hb : ((t[0]'(by omega)).toNat : Int) = bt t 0 := get_bt t 0 (by omega)
  have hk0 : (w.iter t 0).heap[w.heap.size]? = some (.stringIter t 0) := World.iter_heap w t 0
  have hb0 : Below w.heap.size w (w.iter t 0) := (Below.refl _ w).alloc (Nat.le_refl _) _
  have hnext : ∀ ty, (Instr.next (.pointer (some ⟨w.heap.size, 0, none⟩)) true ty).run Tryz.prog (w.iter t 0) = _ := fun ty => Lib.run_next_ascii_at (w.iter t 0) w.heap.size t 0 ty hk0 (by omega) (by omega)
  rw [hb] at hnext
  have hnx := Lib.below_iterAt hb0 (k := w.heap.size) (Nat.le_refl _) t 1
  simp only [Nat.zero_add] at hnext
  have h6 : bt t 0 = 110 ∨ bt t 0 = 105 ∨ bt t 0 = 102 ∨ bt t 0 = 116 ∨ bt t 0 = 118 ∨ bt t 0 = 119 := by
    unfold opOf at ho
    split at ho
    · rename_i g; exact g.2
    · cases ho
  generalize (w.iter t 0).iterAt w.heap.size t 1 = W1 at *
  have hz : (t.size : Int) = 1 := by omega
  clear hb hl hlo ho hk0 hb0
  rcases h6 with e | e | e | e | e | e <;> rw [e] at hnext ⊢ <;> clear e
  all_goals
    go_enter Tryz.func65, Tryz.ntmps65
    go_wp2_with fail
    go_loopg [2] 1 (fun g s2 wr => wr = w.iter t 0)
    case atStart => rfl
    case round =>
      subst hrel
      go_wp2_with fail
      go_ret
      exact ⟨rfl, hnx⟩
set_option maxRecDepth 100000 in
set_option maxHeartbeats 4000000 in
theorem operand_no (t : ByteArray) (w : World) (ht : t.size ≤ 1000000) (ho : opOf t = none) :
    Calls Tryz.prog 65 #[.string t] w fun e w' => e = .returned .nilFunc ∧ Below w.heap.size w w' := by
  have hk0 : (w.iter t 0).heap[w.heap.size]? = some (.stringIter t 0) := World.iter_heap w t 0
  have hb0 : Below w.heap.size w (w.iter t 0) := (Below.refl _ w).alloc (Nat.le_refl _) _
  by_cases h0 : t.size = 0
  · have hnext : ∀ ty, (Instr.next (.pointer (some ⟨w.heap.size, 0, none⟩)) true ty).run Tryz.prog (w.iter t 0) = _ := fun ty => Lib.run_next_end_at (w.iter t 0) w.heap.size t 0 ty hk0 (by omega)
    clear ho hk0
    generalize hW : w.iter t 0 = W0 at *
    have HW := Lib.hid hW
    clear hW
    go_enter Tryz.func65, Tryz.ntmps65
    go_wp2_with fail
    rw [HW.out]
    go_loopg [2] 1 (fun g s2 wr => wr = W0)
    case atStart => rfl
    case round =>
      subst hrel
      go_wp2_with fail
      go_ret
      exact ⟨rfl, hb0⟩
  · have hnext : ∀ ty, (Instr.next (.pointer (some ⟨w.heap.size, 0, none⟩)) true ty).run Tryz.prog (w.iter t 0) = _ := fun ty => Lib.run_next_any_at (w.iter t 0) w.heap.size t 0 ty hk0 (by omega)
    have hnx := Lib.below_iterAt hb0 (k := w.heap.size) (Nat.le_refl _) t (0 + (Utf8.decode t 0).2)
    have hk1 := Lib.iterAt_heap (w.iter t 0) w.heap.size t 0 (0 + (Utf8.decode t 0).2) hk0
    have hwd := Lib.decode_width_pos t 0 (by omega)
    by_cases h1 : t.size = 1
    · have hr : (Utf8.decode t 0).1 ≠ 110 ∧ (Utf8.decode t 0).1 ≠ 105 ∧ (Utf8.decode t 0).1 ≠ 102 ∧ (Utf8.decode t 0).1 ≠ 116 ∧ (Utf8.decode t 0).1 ≠ 118 ∧ (Utf8.decode t 0).1 ≠ 119 := by
        have hb : ((t[0]'(by omega)).toNat : Int) = bt t 0 := get_bt t 0 (by omega)
        have hn : ¬ (t.size = 1 ∧ (bt t 0 = 110 ∨ bt t 0 = 105 ∨ bt t 0 = 102 ∨ bt t 0 = 116 ∨ bt t 0 = 118 ∨ bt t 0 = 119)) := fun g => by unfold opOf at ho; rw [if_pos g] at ho; cases ho
        have hn : ¬ (bt t 0 = 110 ∨ bt t 0 = 105 ∨ bt t 0 = 102 ∨ bt t 0 = 116 ∨ bt t 0 = 118 ∨ bt t 0 = 119) := fun g => hn ⟨h1, g⟩
        rw [← hb] at hn
        by_cases ha : (t[0]'(by omega)).toNat < 128
        · rw [decode_ascii t 0 (by omega) ha]
          simp only
          omega
        · have := (decode_high t 0 (by omega) (by omega)).1
          omega
      have hz : ¬ (1 : Int) < t.size := by omega
      generalize (Utf8.decode t 0).1 = r at *
      generalize hp : 0 + (Utf8.decode t 0).2 = p at *
      obtain ⟨r1, r2, r3, r4, r5, r6⟩ := hr
      have q1 : ((r : Int) == 110) = false := by simp; omega
      have q2 : ((r : Int) == 105) = false := by simp; omega
      have q3 : ((r : Int) == 102) = false := by simp; omega
      have q4 : ((r : Int) == 116) = false := by simp; omega
      have q5 : ((r : Int) == 118) = false := by simp; omega
      have q6 : ((r : Int) == 119) = false := by simp; omega
      have hend : ∀ ty, (Instr.next (.pointer (some ⟨w.heap.size, 0, none⟩)) true ty).run Tryz.prog ((w.iter t 0).iterAt w.heap.size t p) = _ := fun ty => Lib.run_next_end_at ((w.iter t 0).iterAt w.heap.size t p) w.heap.size t p ty hk1 (by omega)
      clear r1 r2 r3 r4 r5 r6 ho hk0 hk1 hp hwd h0 h1
      generalize (w.iter t 0).iterAt w.heap.size t p = W1 at *
      generalize hW : w.iter t 0 = W0 at *
      have HW := Lib.hid hW
      clear hW
      go_enter Tryz.func65, Tryz.ntmps65
      go_wp2_with fail
      rw [HW.out]
      go_loopg [2] 1 (fun g s2 wr => (g = 1 ∧ wr = W0) ∨ (g = 0 ∧ wr = W1))
      case atStart => exact .inl ⟨rfl, rfl⟩
      case round =>
        rcases hrel with ⟨hg, rfl⟩ | ⟨hg, rfl⟩
        · go_wp2_with fail
          go_roundg 0
          case rel => exact .inr ⟨rfl, rfl⟩
          case measure => omega
        · go_wp2_with fail
          go_ret
          exact ⟨rfl, hnx⟩
    · have hz : (1 : Int) < t.size := by omega
      generalize (w.iter t 0).iterAt w.heap.size t (0 + (Utf8.decode t 0).2) = W1 at *
      generalize hW : w.iter t 0 = W0 at *
      have HW := Lib.hid hW
      clear hW ho hk0 hk1 hwd h0 h1
      go_enter Tryz.func65, Tryz.ntmps65
      go_wp2_with fail
      rw [HW.out]
      go_loopg [2] 1 (fun g s2 wr => wr = W0)
      case atStart => rfl
      case round =>
        subst hrel
        go_wp2_with fail
        go_ret
        exact ⟨rfl, hnx⟩
end Go.Proofs.YtgbemhehbhlgpaaGreatDoor
