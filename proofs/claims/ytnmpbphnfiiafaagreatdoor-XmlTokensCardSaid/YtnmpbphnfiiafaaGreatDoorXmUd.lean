/-
  Laws and contracts taken over from earlier texts (cut out by a program of this seat's own, slice.py), as far as this seat needs them.
-/
import Derived.Test.YtnmpbphnfiiafaaGreatDoorXmUc
namespace Go.Proofs.YtnmpbphnfiiafaaGreatDoor
section
open Go.RowKit Go.PlainAid
/-- Nothing that was there has turned but block b. -/
structure Only (b : Nat) (w w' : World) : Prop where
  os : w'.os = w.os
  tape : w'.tape = w.tape
  output : w'.output = w.output
  size : w.heap.size ≤ w'.heap.size
  block : ∀ k, k < w.heap.size → k ≠ b → w'.heap[k]? = w.heap[k]?

theorem Only.trans {b : Nat} {a c d : World} (h : Only b a c) (k : Only b c d) : Only b a d :=
  ⟨k.os.trans h.os, k.tape.trans h.tape, k.output.trans h.output, Nat.le_trans h.size k.size, fun i hi hb => (k.block i (Nat.lt_of_lt_of_le hi h.size) hb).trans (h.block i hi hb)⟩

theorem Only.setCell {b : Nat} {a w : World} (h : Only b a w) (o : Nat) (u : Value) : Only b a (w.setCell ⟨b, o, none⟩ u) :=
  h.trans ⟨rfl, rfl, rfl, by simp [World.setCell], fun k _ hk => Below.heap_setCell _ _ _ _ hk⟩

end
section
open Go.RowKit Go.PlainAid
theorem tl_yes {X : ByteArray} {l : List UInt8} (h : X = ⟨l.toArray⟩) : (X.toList == l) = true := by
  rw [h, Lib.toList_data]
  simp

theorem tl_no {X : ByteArray} {l : List UInt8} (h : X ≠ ⟨l.toArray⟩) : (X.toList == l) = false := by
  rw [Lib.toList_data]
  simp only [beq_eq_false_iff_ne, ne_eq]
  intro g
  refine h ?_
  apply ByteArray.ext
  rw [← g]

theorem GRow.form' {α : Type} {E : ETy α} {base : Nat} {w : World} {v : Value} {l : List α} (h : GRow E base w v l) : ∃ a n c, v = .slice a n c := by
  obtain ⟨a, c, h⟩ := h.form
  exact ⟨_, _, _, h⟩

end
section
open Go.RowKit Go.PlainAid
/-- One element put behind; the row lies where it lay, or in a block that is new. -/
theorem wpList_snoc_at {α : Type} (E : ETy α) {ops : Array Oper} {rest : List Oper} {o : Oper} {a : Act} {Q : Exit → Act → World → Prop} {w : World} (x : α) (hgd : o.guard = none) (s y : Operand)
    (ho : o.op = .call { callee := .builtin .append, args := #[s, y], argTypes := #[E.ST, E.ST] })
    (base : Nat) (v : Value) (l : List α) (hs : a.eval s = v) (hrow : GRow E base w v l) (c : Nat) (g : Nat) (hx : a.eval y = .slice (some ⟨g, 0, none⟩) 1 c) (hg : Blk w g (E.enc x).toArray) (hlen : l.length ≤ 100000000)
    (hz : base ≤ w.heap.size)
    (h : ∀ g' cap w', GRow E base w' (.slice (some ⟨g', 0, none⟩) (l.length + 1) cap) (l ++ [x]) → w.grownBy w' v.ownBlock → (v.ownBlock = some g' ∨ g' = w.heap.size) → wpList Tryz.prog ops Q rest (a.put o.dst (.slice (some ⟨g', 0, none⟩) (l.length + 1) cap)) w') : wpList Tryz.prog ops Q (o :: rest) a w := by
  obtain ⟨i0, hi, hz0, hz1, hz2⟩ := info_parts E.info
  refine wpList_append_lies w hgd s y E.ST ho base E.T i0 E.z E.sz E.bs E.und hi hz0 hz1 hz2 E.hz E.hsz v l.length _ hs hrow ⟨g, 0, none⟩ 1 c (E.enc x) hx (by rw [E.hlen, Nat.one_mul]) (fun j u hu => ?_) (E.hone x) (by decide) (by unfold maxLen; omega) ?_ hz _ rfl ?_
  · rw [Lib.add_plain, hg.cell, Nat.zero_add]
    simpa using hu
  · calc (l.length + 1) * E.bs ≤ (l.length + 1) * 1000 := Nat.mul_le_mul_left _ E.hbs
      _ ≤ 140737488355328 := by omega
  intro g' cap w' hown' hgrow hat _
  exact h g' cap w' (GRow.snoc hown') hgrow hat

theorem GRow.set {α : Type} {E : ETy α} {base : Nat} {w : World} {v : Value} {l : List α} (h : GRow E base w v l) (c i : Nat) (u : Value) (hc : c < base) : GRow E base (w.setCell ⟨c, i, none⟩ u) v l :=
  h.later fun g hg => Below.heap_setCell _ _ _ _ (by have h1 := h.own g hg; show g ≠ c; omega)

theorem blk_grown {w w' : World} {own : Option Nat} {b : Nat} {cs : Array Value} (hg : w.grownBy w' own) (h : Blk w b cs) (hne : own ≠ some b) : Blk w' b cs := by
  obtain ⟨t, h⟩ := h
  exact ⟨t, (hg.block b (lt_some h) (fun e => hne e.symm)).trans h⟩

theorem row_grown {α : Type} {E : ETy α} {base : Nat} {w w' : World} {own : Option Nat} {v : Value} {l : List α} (hg : w.grownBy w' own) (h : GRow E base w v l) (hne : ∀ g, v.ownBlock = some g → own ≠ some g) : GRow E base w' v l :=
  h.later fun g hv => hg.block g (h.lt g hv) (fun e => hne g hv e.symm)

end
section
open Go.RowKit Go.PlainAid
theorem bytes_ne {X : ByteArray} (h : X.size ≠ 0) : (X.toList == ([] : List UInt8)) = false := tl_no (fun e => h (by rw [e]; rfl))

theorem bytes_nil {X : ByteArray} (h : X.size = 0) : (X.toList == ([] : List UInt8)) = true := tl_yes (ByteArray.ext (Array.eq_empty_of_size_eq_zero h))

end
section
open Go.RowKit Go.PlainAid
theorem bytes_eqb (x y : ByteArray) : (x.toList == y.toList) = decide (x = y) := by
  by_cases h : x = y
  · subst h
    simp
  · rw [decide_eq_false h]
    have hne : x.toList ≠ y.toList := fun e => h (by
      have h1 : x = ⟨x.toList.toArray⟩ := (by
        have := tl_yes (X := x) (l := x.data.toList) (by cases x; simp)
        have h2 : x.toList = x.data.toList := by simpa using this
        rw [h2])
      have h3 : y = ⟨y.toList.toArray⟩ := (by
        have := tl_yes (X := y) (l := y.data.toList) (by cases y; simp)
        have h2 : y.toList = y.data.toList := by simpa using this
        rw [h2])
      rw [h1, h3, e])
    simpa using hne

end
end Go.Proofs.YtnmpbphnfiiafaaGreatDoor
