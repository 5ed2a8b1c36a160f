/-
  Words for slices that a call makes: an append of one element as one law (the row and what stands below it handed on), rows of bytes, their text.
-/
import Derived.Test.YtgccppilhbannaaDoorRows
import Derived.Test.YtgccppilhbannaaDoorDecP
import Derived.Test.YtgccppilhbannaaDoorDecR
import Derived.Test.YtgccppilhbannaaDoorDecM
import Derived.WalkKit
import Derived.Lib.SlBytesRow
import Derived.Lib.BufferRead
namespace Go.Proofs.YtgccppilhbannaaDoor
open Go.RowKit Go.PlainAid

theorem wpList_snoc_int {ops : Array Oper} {rest : List Oper} {o : Oper} {a : Act} {Q : Exit → Act → World → Prop} {W0 w : World} {B : Nat} {y : Int} (hgd : o.guard = none) (s x : Operand)
    (ho : o.op = .call { callee := .builtin .append, args := #[s, x], argTypes := #[40, 40] })
    (base : Nat) (v : Value) (l : List Nat) (d : Nat) (hs : a.eval s = v) (hrow : IntRow base w v l) (hx : a.eval x = .slice (some ⟨w.heap.size, 0, none⟩) 1 1) (hy : y = (d : Int)) (hlen : l.length ≤ 1000000000000)
    (hB : Below B W0 w) (hW : B ≤ W0.heap.size) (hb : B ≤ base) (hz : base ≤ w.heap.size)
    (h : ∀ v' w', IntRow base w' v' (l ++ [d]) → Below B W0 w' → wpList Tryd.prog ops Q rest (a.put o.dst v') w') : wpList Tryd.prog ops Q (o :: rest) a (w.alloc (.cells #[.int .i64 y] 3)) := by
  obtain ⟨i0, hi, hz0, hz1, hz2⟩ := info_parts infoInt
  have hsz := hB.size
  refine wpList_append_own _ hgd s x 40 ho base 3 i0 (.int .i64 0) 1 8 Tryd.underlying40 hi hz0 hz1 hz2 rfl (by decide) v l.length _ hs (World.ownsRow.alloc hrow _) ⟨w.heap.size, 0, none⟩ 1 1 [.int .i64 y] hx rfl (cell_one_new _ _ _) (by simp [Value.oneCell']) (by unfold maxLen; omega) (by omega) (by simp; omega) ?_
  intro v' w' hown' hgrow _
  refine h v' w' (IntRow.snoc hy hown') ?_
  exact (hB.alloc (by omega) (.cells #[.int .i64 y] 3)).grown hgrow (by simp; omega) (fun k hk => Nat.le_trans hb (hrow.own k hk))

/-- A slice of bytes that a call has made (its block lies at base or behind). -/
def ByteRow (base : Nat) (w : World) (v : Value) (l : List UInt8) : Prop := w.ownsRow base 5 1 v l.length (l.map fun b => Value.int .u8 (b.toNat : Int))
theorem ByteRow.nil (base : Nat) (w : World) : ByteRow base w (.slice none 0 0) [] := World.ownsRow_nil _ _ _ _
theorem ByteRow.read {base : Nat} {w : World} {v : Value} {l : List UInt8} (h : ByteRow base w v l) :
    (l = [] ∧ v = .slice none 0 0) ∨ ∃ g cap, v = .slice (some ⟨g, 0, none⟩) l.length cap ∧ base ≤ g ∧ g < w.heap.size ∧ l.length ≤ cap ∧ cap ≤ maxLen ∧ ∀ j (hj : j < l.length), w.cell? ⟨g, j, none⟩ = some (.int .u8 (l[j].toNat : Int)) ∧ w.frozen? ⟨g, j, none⟩ = false := by
  obtain ⟨h1, h2⟩ := id h
  rcases h2 with ⟨hv, hn⟩ | ⟨g, cap, cur, hv, hg, hh, hc, hm, hs, ht⟩
  · exact .inl ⟨List.eq_nil_of_length_eq_zero hn, hv⟩
  · refine .inr ⟨g, cap, hv, hg, (Array.getElem?_eq_some_iff.1 hh).1, hc, hm, fun j hj => ?_⟩
    have h' : w.ownsRow base 5 1 (.slice (some ⟨g, 0, none⟩) l.length cap) l.length (l.map fun b => Value.int .u8 (b.toNat : Int)) := by rw [← hv]; exact h
    refine ⟨?_, World.ownsRow.frozenAt h' j⟩
    rw [World.ownsRow.cellAt h' j (by omega), List.getElem?_map, List.getElem?_eq_getElem hj]
    rfl
theorem ByteRow.later {base : Nat} {w w' : World} {v : Value} {l : List UInt8} (h : ByteRow base w v l) (hb : Below w.heap.size w w') : ByteRow base w' v l := by
  obtain ⟨h1, h2⟩ := h
  refine ⟨h1, ?_⟩
  rcases h2 with h2 | ⟨g, cap, cur, hv, hg, hh, r⟩
  · exact .inl h2
  · exact .inr ⟨g, cap, cur, hv, hg, (hb.block g (Array.getElem?_eq_some_iff.1 hh).1).trans hh, r⟩
theorem ByteRow.base {base base' : Nat} {w : World} {v : Value} {l : List UInt8} (h : ByteRow base w v l) (hb : base' ≤ base) : ByteRow base' w v l := by
  obtain ⟨h1, h2⟩ := h
  refine ⟨h1, ?_⟩
  rcases h2 with h2 | ⟨g, cap, cur, hv, hg, r⟩
  · exact .inl h2
  · exact .inr ⟨g, cap, cur, hv, Nat.le_trans hb hg, r⟩
theorem ByteRow.own {base : Nat} {w : World} {v : Value} {l : List UInt8} (h : ByteRow base w v l) : ∀ k, v.ownBlock = some k → base ≤ k := by
  rcases h.2 with ⟨hv, _⟩ | ⟨g, cap, cur, hv, hg, _⟩
  · intro k hk; rw [hv] at hk; cases hk
  · intro k hk
    rw [hv] at hk
    have : g = k := Option.some.inj hk
    omega
theorem ByteRow.snoc {base : Nat} {w : World} {v : Value} {l : List UInt8} {d : UInt8} {x : Int} (hx : x = (d.toNat : Int)) (h : w.ownsRow base 5 1 v (l.length + 1) ((l.map fun b => Value.int .u8 (b.toNat : Int)) ++ [.int .u8 x])) : ByteRow base w v (l ++ [d]) := by
  subst hx
  unfold ByteRow
  simpa using h
theorem wpList_snoc_byte {ops : Array Oper} {rest : List Oper} {o : Oper} {a : Act} {Q : Exit → Act → World → Prop} {W0 w : World} {B : Nat} {y : Int} (hgd : o.guard = none) (s x : Operand)
    (ho : o.op = .call { callee := .builtin .append, args := #[s, x], argTypes := #[76, 76] })
    (base : Nat) (v : Value) (l : List UInt8) (d : UInt8) (hs : a.eval s = v) (hrow : ByteRow base w v l) (hx : a.eval x = .slice (some ⟨w.heap.size, 0, none⟩) 1 1) (hy : y = (d.toNat : Int)) (hlen : l.length ≤ 1000000000000)
    (hB : Below B W0 w) (hW : B ≤ W0.heap.size) (hb : B ≤ base) (hz : base ≤ w.heap.size)
    (h : ∀ v' w', ByteRow base w' v' (l ++ [d]) → Below B W0 w' → wpList Tryd.prog ops Q rest (a.put o.dst v') w') : wpList Tryd.prog ops Q (o :: rest) a (w.alloc (.cells #[.int .u8 y] 5)) := by
  obtain ⟨i0, hi, hz0, hz1, hz2⟩ := info_parts infoByte
  have hsz := hB.size
  refine wpList_append_own _ hgd s x 76 ho base 5 i0 (.int .u8 0) 1 1 Tryd.underlying76 hi hz0 hz1 hz2 rfl (by decide) v l.length _ hs (World.ownsRow.alloc hrow _) ⟨w.heap.size, 0, none⟩ 1 1 [.int .u8 y] hx rfl (cell_one_new _ _ _) (by simp [Value.oneCell']) (by unfold maxLen; omega) (by omega) (by simp; omega) ?_
  intro v' w' hown' hgrow _
  refine h v' w' (ByteRow.snoc hy hown') ?_
  exact (hB.alloc (by omega) (.cells #[.int .u8 y] 5)).grown hgrow (by simp; omega) (fun k hk => Nat.le_trans hb (hrow.own k hk))

/-- The text of a row of bytes. -/
theorem ByteRow.text {base : Nat} {w : World} {v : Value} {l : List UInt8} (h : ByteRow base w v l) : (convert 76 9 v).run Tryd.prog w = .ok (.string ⟨l.toArray⟩) w := by
  rcases h.read with ⟨rfl, rfl⟩ | ⟨g, cap, rfl, _, _, _, _, hc⟩
  · exact Lib.run_convert_nil_bytes w _ _ 5 0 Tryd.underlying76 Tryd.underlying5 Tryd.underlying9
  · have hb : Lib.Bytes w g 0 ⟨l.toArray⟩ := fun i hi => by
      have hi' : i < l.length := by simpa [ByteArray.size] using hi
      rw [Nat.zero_add, (hc i hi').1]
      rfl
    have h := Lib.run_convert_whole (P := Tryd.prog) w 76 5 9 Tryd.underlying76 Tryd.underlying5 Tryd.underlying9 _ _ _ hb cap
    simpa [ByteArray.size] using h
end Go.Proofs.YtgccppilhbannaaDoor
