/-
  Patterns of dates: the reference's Right and row; rows of fields in memory.
-/
import Derived.Test.YtbnhfjhhbgmhfaaDoorDpK
import Derived.Test.YtbnhfjhhbgmhfaaDoorBlk
import Derived.Test.YtbnhfjhhbgmhfaaDoorJumps
import Derived.Lib.ItoaMem
namespace Go.Proofs.YtbnhfjhhbgmhfaaDoor
open Go.RowKit Go.PlainAid

theorem rAt_in (s : ByteArray) (i : Nat) (hs : s.size ≤ 1000000000000000) (hi : i < s.size) (w : World) :
    Calls Tryd.prog 60 #[.string s, .int .i64 i] w fun e w' => e = .returned (.tuple #[.int .i32 (rn s i), .int .i64 (wd s i)]) ∧ w = w' := by
  have c := fun W => rForm_in s i hs hi W
  rw [formS_wd] at c
  change ∀ W, Calls _ _ _ _ (fun e w' => e = .returned (.tuple #[.int .i32 (rn s i), .int .i64 (wd s i)]) ∧ W = w') at c
  go_enter Tryd.func60, Tryd.ntmps60
  go_wp2_with fail
  refine (c _).mono ?_
  rintro e w' ⟨rfl, rfl⟩
  go_wp2_with fail
  go_ret2
  exact ⟨rfl, rfl⟩

set_option maxHeartbeats 1000000 in
theorem right_any (s : ByteArray) (w : World) (hs : s.size ≤ 1000000000000000) :
    Calls Tryd.prog 35 #[.string s] w fun e w' => e = .returned (.int .i64 (brk s 0)) ∧ w = w' := by
  go_enter Tryd.func35, Tryd.ntmps35
  go_wp2
  go_loop [3] (fun i => ∃ (pos : Nat), i = .int .i64 pos ∧ brk s 0 = brk s pos ∧ pos ≤ s.size) (fun i => s.size - (intOf i).toNat)
  case atStart => exact ⟨0, rfl, rfl, Nat.zero_le _⟩
  case round =>
    obtain ⟨pos, rfl, hc, hle⟩ := hrel
    have HC := Lib.hid hc; clear hc
    by_cases hp : pos < s.size
    · have hwd := wd_pos s pos hp
      have hin := wd_in s pos hp
      have hst := Lib.hid (brk_step s pos hp)
      have c := rAt_in s pos hs hp w
      by_cases hn : rn s pos < 0
      · go_wp2_with (go_at_call 60; refine c.mono ?_; rintro e w' ⟨rfl, rfl⟩)
        go_ret
        exact ⟨ret_int (by rw [HC.out, hst.out, if_pos (by omega)]), rfl⟩
      · go_wp2_with (go_at_call 60; refine c.mono ?_; rintro e w' ⟨rfl, rfl⟩)
        go_round
        case rel => exact ⟨pos + wd s pos, by go_num, by rw [HC.out, hst.out, if_neg (by omega)], hin⟩
        case measure => simp [intOf]; omega
    · have hst := Lib.hid (brk_end s pos (by omega))
      go_wp2
      go_ret
      exact ⟨ret_int (by rw [HC.out, hst.out]), rfl⟩

theorem infoPF : (Tryd.prog.info? 43).map (fun i => (i.zero, i.size, i.bytes)) = some (some (.agg #[.int .u8 0, .int .i64 0, .string ⟨#[]⟩]), 3, 32) := by kernel_rfl
/-- The cells of a row of fields. -/
def pfC (x : PF) : List Value := [.int .u8 x.1, .int .i64 x.2.1, .string x.2.2]
def pfCs (l : List PF) : List Value := l.flatMap pfC
theorem pfCs_len : ∀ l : List PF, (pfCs l).length = l.length * 3
  | [] => rfl
  | x :: l => by
    have ih := pfCs_len l
    unfold pfCs at ih ⊢
    rw [List.flatMap_cons, List.length_append, ih]
    simp [pfC]
    omega
theorem pfCs_app (l m : List PF) : pfCs (l ++ m) = pfCs l ++ pfCs m := by unfold pfCs; rw [List.flatMap_append]
theorem pfCs_at : ∀ (l : List PF) (j : Nat) (hj : j < l.length), (pfCs l)[j * 3]? = some (.int .u8 (l[j]).1) ∧ (pfCs l)[j * 3 + 1]? = some (.int .i64 (l[j]).2.1) ∧ (pfCs l)[j * 3 + 2]? = some (.string (l[j]).2.2)
  | [], j, hj => absurd hj (by simp)
  | x :: l, 0, _ => ⟨rfl, rfl, rfl⟩
  | x :: l, j + 1, hj => by
    have ih := pfCs_at l j (by simp at hj; omega)
    have h : ∀ i, (pfCs (x :: l))[i + 3]? = (pfCs l)[i]? := fun i => rfl
    rw [show (j + 1) * 3 = j * 3 + 3 by omega, show j * 3 + 3 + 1 = (j * 3 + 1) + 3 by omega, show j * 3 + 3 + 2 = (j * 3 + 2) + 3 by omega, h, h, h]
    exact ih
/-- A slice of fields that a call has made (its block lies at base or behind). -/
def PFRow (base : Nat) (w : World) (v : Value) (l : List PF) : Prop := w.ownsRow base 43 3 v l.length (pfCs l)
theorem PFRow.nil (base : Nat) (w : World) : PFRow base w (.slice none 0 0) [] := World.ownsRow_nil _ _ _ _
theorem PFRow.read {base : Nat} {w : World} {v : Value} {l : List PF} (h : PFRow base w v l) :
    (l = [] ∧ v = .slice none 0 0) ∨ ∃ g cap, v = .slice (some ⟨g, 0, none⟩) l.length cap ∧ base ≤ g ∧ g < w.heap.size ∧ l.length ≤ cap ∧ cap ≤ maxLen ∧ ∀ j (hj : j < l.length), w.cell? ⟨g, j * 3, none⟩ = some (.int .u8 (l[j]).1) ∧ w.cell? ⟨g, j * 3 + 1, none⟩ = some (.int .i64 (l[j]).2.1) ∧ w.cell? ⟨g, j * 3 + 2, none⟩ = some (.string (l[j]).2.2) := by
  obtain ⟨h1, h2⟩ := id h
  rcases h2 with ⟨hv, hn⟩ | ⟨g, cap, cur, hv, hg, hh, hc, hm, hs, ht⟩
  · exact .inl ⟨List.eq_nil_of_length_eq_zero hn, hv⟩
  · refine .inr ⟨g, cap, hv, hg, (Array.getElem?_eq_some_iff.1 hh).1, hc, hm, fun j hj => ?_⟩
    have h' : w.ownsRow base 43 3 (.slice (some ⟨g, 0, none⟩) l.length cap) l.length (pfCs l) := by rw [← hv]; exact h
    have hl := pfCs_len l
    have ha := pfCs_at l j hj
    refine ⟨?_, ?_, ?_⟩
    · rw [World.ownsRow.cellAt h' (j * 3) (by omega)]; exact ha.1
    · rw [World.ownsRow.cellAt h' (j * 3 + 1) (by omega)]; exact ha.2.1
    · rw [World.ownsRow.cellAt h' (j * 3 + 2) (by omega)]; exact ha.2.2
theorem PFRow.later {base : Nat} {w w' : World} {v : Value} {l : List PF} (h : PFRow base w v l) (hb : Below w.heap.size w w') : PFRow base w' v l := by
  obtain ⟨h1, h2⟩ := h
  refine ⟨h1, ?_⟩
  rcases h2 with h2 | ⟨g, cap, cur, hv, hg, hh, r⟩
  · exact .inl h2
  · exact .inr ⟨g, cap, cur, hv, hg, (hb.block g (Array.getElem?_eq_some_iff.1 hh).1).trans hh, r⟩
theorem PFRow.snoc {base : Nat} {w : World} {v : Value} {l : List PF} {x : PF} (h : w.ownsRow base 43 3 v (l.length + 1) (pfCs l ++ pfC x)) : PFRow base w v (l ++ [x]) := by
  unfold PFRow
  have e : pfCs (l ++ [x]) = pfCs l ++ pfC x := by unfold pfCs; simp
  rw [e, List.length_append]
  exact h
theorem PFRow.own {base : Nat} {w : World} {v : Value} {l : List PF} (h : PFRow base w v l) : ∀ k, v.ownBlock = some k → base ≤ k := fun k hk => (World.ownsRow.lt h k hk).1
theorem PFRow.form {base : Nat} {w : World} {v : Value} {l : List PF} (h : PFRow base w v l) : ∃ a cap, v = .slice a l.length cap := by
  rcases h.read with ⟨rfl, rfl⟩ | ⟨g, cap, rfl, _⟩
  · exact ⟨_, _, rfl⟩
  · exact ⟨_, _, rfl⟩
theorem PFRow.frz {base : Nat} {w : World} {g n cap : Nat} {l : List PF} (h : PFRow base w (.slice (some ⟨g, 0, none⟩) n cap) l) (j : Nat) : w.frozen? ⟨g, j, none⟩ = false := by
  rcases h.2 with ⟨hv, _⟩ | ⟨g', cap', cur, hv, _, hh, _⟩
  · cases hv
  · have e1 : g = g' := by injection hv with e; injection e with e; injection e
    subst e1
    simp [World.frozen?, hh]
/-- The last field's text turned, in place. -/
theorem PFRow.turn {base : Nat} {w : World} {g cap : Nat} {l : List PF} {b c : Int} {t : ByteArray} (h : PFRow base w (.slice (some ⟨g, 0, none⟩) (l.length + 1) cap) (l ++ [(b, c, t)])) (u : ByteArray) :
    PFRow base (w.setCell ⟨g, l.length * 3 + 2, none⟩ (.string u)) (.slice (some ⟨g, 0, none⟩) (l.length + 1) cap) (l ++ [(b, c, u)]) := by
  obtain ⟨h1, h2⟩ := h
  rcases h2 with ⟨hv, _⟩ | ⟨g', cap', cur, hv, hg, hh, hc, hm, hs, ht⟩
  · cases hv
  have e1 : g = g' := by injection hv with e; injection e with e; injection e
  subst e1
  have hl := pfCs_len l
  refine ⟨by rw [pfCs_len], .inr ⟨g, cap, cur.setIfInBounds (l.length * 3 + 2) (.string u), by rw [List.length_append]; rfl, hg, ?_, ?_, ?_, ?_, ?_⟩⟩
  · exact Go.Joins.block_setCell hh _
  · injection hv with _ _ e; rw [e]; simpa using hc
  · injection hv with _ _ e; rw [e]; exact hm
  · injection hv with _ _ e; rw [e, Array.size_setIfInBounds]; exact hs
  · rw [show (l ++ [(b, c, u)]).length = (l ++ [(b, c, t)]).length by simp, Array.toList_setIfInBounds, List.take_set, ht, pfCs_app, pfCs_app, List.set_append_right _ _ (by omega), hl, show l.length * 3 + 2 - l.length * 3 = 2 by omega]
    rfl
theorem wpList_snoc_pf {ops : Array Oper} {rest : List Oper} {o : Oper} {a : Act} {Q : Exit → Act → World → Prop} {W0 w : World} {B : Nat} {x : PF} (hgd : o.guard = none) (s y : Operand)
    (ho : o.op = .call { callee := .builtin .append, args := #[s, y], argTypes := #[23, 23] })
    (base : Nat) (v : Value) (l : List PF) (hs : a.eval s = v) (hrow : PFRow base w v l) (q : Nat) (hq : q = w.heap.size) (hx : a.eval y = .slice (some ⟨q, 0, none⟩) 1 1) (hlen : l.length ≤ 1000000000)
    (hB : Below B W0 w) (hb : B ≤ base) (hz : base ≤ w.heap.size)
    (h : ∀ v' w', PFRow base w' v' (l ++ [x]) → Below B W0 w' → wpList Tryd.prog ops Q rest (a.put o.dst v') w') : wpList Tryd.prog ops Q (o :: rest) a (w.alloc (.cells #[.int .u8 x.1, .int .i64 x.2.1, .string x.2.2] 43)) := by
  subst hq
  obtain ⟨i0, hi, hz0, hz1, hz2⟩ := info_parts infoPF
  refine wpList_append_own _ hgd s y 23 ho base 43 i0 (.agg #[.int .u8 0, .int .i64 0, .string ⟨#[]⟩]) 3 32 Tryd.underlying23 hi hz0 hz1 hz2 rfl (by decide) v l.length _ hs (World.ownsRow.alloc hrow _) ⟨w.heap.size, 0, none⟩ 1 1 (pfC x) hx rfl (fun j u hu => ?_) (by simp [pfC, Value.oneCell']) (by unfold maxLen; omega) (by omega) (by simp; omega) ?_
  · rw [Lib.add_plain, (Blk.new w #[.int .u8 x.1, .int .i64 x.2.1, .string x.2.2] 43).cell, Nat.zero_add]
    simpa [pfC] using hu
  intro v' w' hown' hgrow _
  refine h v' w' (PFRow.snoc hown') ?_
  exact (hB.alloc (by omega) (.cells #[.int .u8 x.1, .int .i64 x.2.1, .string x.2.2] 43)).grown hgrow (by simp; omega) (fun k hk => Nat.le_trans hb (hrow.own k hk))
end Go.Proofs.YtbnhfjhhbgmhfaaDoor
