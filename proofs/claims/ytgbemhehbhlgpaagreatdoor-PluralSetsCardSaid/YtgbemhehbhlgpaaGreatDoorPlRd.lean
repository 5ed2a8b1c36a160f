/-
  Rules for numbers, the document's answer: a relation and its ranges in memory.
-/
import Derived.Test.YtgbemhehbhlgpaaGreatDoorPlRc
import Derived.Deep.AppendLies
import Derived.Test.YtgbemhehbhlgpaaGreatDoorPlZ
namespace Go.Proofs.YtgbemhehbhlgpaaGreatDoor
open Go.RowKit Go.PlainAid

def I64E : ETy Nat where
  T := 2
  ST := 84
  sz := 1
  bs := 8
  z := .int .i64 0
  enc := fun x => [.int .i64 (x : Int)]
  hsz := by decide
  hbs := by decide
  hlen := fun _ => rfl
  hz := rfl
  info := by kernel_rfl
  und := Tryz.underlying84
  hone := fun _ => by simp [Value.oneCell']

/-- One element put behind; the row lies where it lay, or in a block that is new. -/
theorem wpList_snoc_at {α : Type} (E : ETy α) {ops : Array Oper} {rest : List Oper} {o : Oper} {a : Act} {Q : Exit → Act → World → Prop} {w : World} (x : α) (hgd : o.guard = none) (s y : Operand)
    (ho : o.op = .call { callee := .builtin .append, args := #[s, y], argTypes := #[E.ST, E.ST] })
    (base : Nat) (v : Value) (l : List α) (hs : a.eval s = v) (hrow : GRow E base w v l) (c : Nat) (g : Nat) (hx : a.eval y = .slice (some ⟨g, 0, none⟩) 1 c) (hg : Blk w g (E.enc x).toArray) (hlen : l.length ≤ 100000000)
    (hz : base ≤ w.heap.size)
    (h : ∀ g' cap w', GRow E base w' (.slice (some ⟨g', 0, none⟩) (l.length + 1) cap) (l ++ [x]) → w.grownBy w' v.ownBlock → (v.ownBlock = some g' ∨ g' = w.heap.size) → wpList Tryz.prog ops Q rest (a.put o.dst (.slice (some ⟨g', 0, none⟩) (l.length + 1) cap)) w') : wpList Tryz.prog ops Q (o :: rest) a w := by
  obtain ⟨i0, hi, hz0, hz1, hz2⟩ := info_parts E.info
  refine wpList_append_lies w hgd s y E.ST ho base E.T i0 E.z E.sz E.bs E.und hi hz0 hz1 hz2 E.hz E.hsz v l.length _ hs hrow ⟨g, 0, none⟩ 1 c (E.enc x) hx (by rw [E.hlen, Nat.one_mul]) (fun j u hu => ?_) (E.hone x) (by decide) (by unfold maxLen; omega) ?_ hz _ rfl ?_
  · rw [Lib.add_plain, hg.cell, Nat.zero_add]
    simpa using hu
  · calc (l.length + 1) * E.bs ≤ (l.length + 1) * 1000 := Nat.mul_le_mul_left _ E.hbs
      _ ≤ 140737488355328 := by omega
  intro g' cap w' hown' hgrow hat _
  exact h g' cap w' (GRow.snoc hown') hgrow hat

/-- A relation that is being read: the result's place, the relation, its two rows. -/
structure RW (w : World) (o : Int) (b : Nat) (nt : Bool) (fv tv : Value) (lf lt : List Nat) (W : World) : Prop where
  res : Blk W w.heap.size #[.int .u8 0, .int .i64 0, .bool false, .slice none 0 0, .slice none 0 0]
  r : Blk W (w.heap.size + 1) #[.int .u8 o, .int .i64 (b : Int), .bool nt, fv, tv]
  fr : GRow I64E (w.heap.size + 2) W fv lf
  tr : GRow I64E (w.heap.size + 2) W tv lt
  ne : ∀ g, fv.ownBlock = some g → tv.ownBlock ≠ some g
  bel : Below w.heap.size w W
  ge : w.heap.size + 2 ≤ W.heap.size
theorem RW.on {w W W' : World} {o : Int} {b : Nat} {nt : Bool} {fv tv : Value} {lf lt : List Nat} (h : RW w o b nt fv tv lf lt W) (hB : Below W.heap.size W W') : RW w o b nt fv tv lf lt W' :=
  ⟨h.res.on hB, h.r.on hB, h.fr.on hB, h.tr.on hB, h.ne, h.bel.trans (hB.mono h.bel.size), Nat.le_trans h.ge hB.size⟩
theorem GRow.set {α : Type} {E : ETy α} {base : Nat} {w : World} {v : Value} {l : List α} (h : GRow E base w v l) (c i : Nat) (u : Value) (hc : c < base) : GRow E base (w.setCell ⟨c, i, none⟩ u) v l :=
  h.later fun g hg => Below.heap_setCell _ _ _ _ (by have h1 := h.own g hg; show g ≠ c; omega)
theorem RW.put {w W : World} {o o' : Int} {b b' : Nat} {nt nt' : Bool} {fv tv : Value} {lf lt : List Nat} (h : RW w o b nt fv tv lf lt W) (i : Nat) (v : Value)
    (hcs : (#[.int .u8 o, .int .i64 (b : Int), .bool nt, fv, tv] : Array Value).setIfInBounds i v = #[.int .u8 o', .int .i64 (b' : Int), .bool nt', fv, tv]) : RW w o' b' nt' fv tv lf lt (W.setCell ⟨w.heap.size + 1, i, none⟩ v) :=
  ⟨h.res.other _ _ _ (by omega), by rw [← hcs]; exact h.r.set i v, h.fr.set _ _ _ (by omega), h.tr.set _ _ _ (by omega), h.ne, h.bel.setCell (p := ⟨w.heap.size + 1, i, none⟩) (Nat.le_succ _) v, by simpa using h.ge⟩
theorem blk_grown {w w' : World} {own : Option Nat} {b : Nat} {cs : Array Value} (hg : w.grownBy w' own) (h : Blk w b cs) (hne : own ≠ some b) : Blk w' b cs := by
  obtain ⟨t, h⟩ := h
  exact ⟨t, (hg.block b (lt_some h) (fun e => hne e.symm)).trans h⟩
theorem row_grown {α : Type} {E : ETy α} {base : Nat} {w w' : World} {own : Option Nat} {v : Value} {l : List α} (hg : w.grownBy w' own) (h : GRow E base w v l) (hne : ∀ g, v.ownBlock = some g → own ≠ some g) : GRow E base w' v l :=
  h.later fun g hv => hg.block g (h.lt g hv) (fun e => hne g hv e.symm)
theorem RW.growF {w W w2 : World} {o : Int} {b : Nat} {nt : Bool} {fv tv : Value} {lf lt : List Nat} (h : RW w o b nt fv tv lf lt W) {g k cap n : Nat} (hrow : GRow I64E (w.heap.size + 2) w2 (.slice (some ⟨g, 0, none⟩) k cap) (lf ++ [n])) (hg : W.grownBy w2 fv.ownBlock) (hat : fv.ownBlock = some g ∨ g = W.heap.size) :
    RW w o b nt (.slice (some ⟨g, 0, none⟩) k cap) tv (lf ++ [n]) lt (w2.setCell ⟨w.heap.size + 1, 3, none⟩ (.slice (some ⟨g, 0, none⟩) k cap)) := by
  have hown := h.fr.own
  have hB := (h.bel.grown hg (by have := h.ge; omega) (fun k hk => by have := hown k hk; omega))
  refine ⟨(blk_grown hg h.res (fun e => by have := hown _ e; omega)).other _ _ _ (by omega), (blk_grown hg h.r (fun e => by have := hown _ e; omega)).set 3 _, hrow.set _ _ _ (by omega), (row_grown hg h.tr (fun g' hg' e => h.ne g' e hg')).set _ _ _ (by omega), fun g' hg' => ?_, hB.setCell (p := ⟨w.heap.size + 1, 3, none⟩) (Nat.le_succ _) _, ?_⟩
  · have e : g = g' := by simpa [Value.ownBlock] using hg'
    subst e
    rcases hat with hat | hat
    · exact h.ne g hat
    · intro e
      have := h.tr.lt g e
      omega
  · have := hg.size
    have := h.ge
    simp
    omega
theorem RW.growT {w W w2 : World} {o : Int} {b : Nat} {nt : Bool} {fv tv : Value} {lf lt : List Nat} (h : RW w o b nt fv tv lf lt W) {g k cap n : Nat} (hrow : GRow I64E (w.heap.size + 2) w2 (.slice (some ⟨g, 0, none⟩) k cap) (lt ++ [n])) (hg : W.grownBy w2 tv.ownBlock) (hat : tv.ownBlock = some g ∨ g = W.heap.size) :
    RW w o b nt fv (.slice (some ⟨g, 0, none⟩) k cap) lf (lt ++ [n]) (w2.setCell ⟨w.heap.size + 1, 4, none⟩ (.slice (some ⟨g, 0, none⟩) k cap)) := by
  have hown := h.tr.own
  have hB := (h.bel.grown hg (by have := h.ge; omega) (fun k hk => by have := hown k hk; omega))
  refine ⟨(blk_grown hg h.res (fun e => by have := hown _ e; omega)).other _ _ _ (by omega), (blk_grown hg h.r (fun e => by have := hown _ e; omega)).set 4 _, (row_grown hg h.fr (fun g' hg' e => h.ne g' hg' e)).set _ _ _ (by omega), hrow.set _ _ _ (by omega), fun g' hg' e => ?_, hB.setCell (p := ⟨w.heap.size + 1, 4, none⟩) (Nat.le_succ _) _, ?_⟩
  · have e : g = g' := by simpa [Value.ownBlock] using e
    subst e
    rcases hat with hat | hat
    · exact h.ne g hg' hat
    · have := h.fr.lt g hg'
      omega
  · have := hg.size
    have := h.ge
    simp
    omega
end Go.Proofs.YtgbemhehbhlgpaaGreatDoor
