/-
  Rows of like elements in memory: what a call has made itself and puts elements behind. For any type of elements.
-/
import Derived.Test.YtgbemhehbhlgpaaGreatDoorPlDd
import Derived.RegionTactic
import Derived.Deep.RegionLawGrows
namespace Go.Proofs.YtgbemhehbhlgpaaGreatDoor
open Go.RowKit Go.PlainAid

/-- How an element lies in memory: its type, its cells, what is known of the type. -/
structure ETy (α : Type) where
  T : TypeId
  ST : TypeId
  sz : Nat
  bs : Nat
  z : Value
  enc : α → List Value
  hsz : 0 < sz
  hbs : bs ≤ 1000
  hlen : ∀ x, (enc x).length = sz
  hz : z.cells.size = sz
  info : (Tryz.prog.info? T).map (fun i => (i.zero, i.size, i.bytes)) = some (some z, sz, bs)
  und : Tryz.prog.underlying ST = some (.slice T)
  hone : ∀ x, ∀ u ∈ enc x, u.oneCell' = true

def ETy.cs {α : Type} (E : ETy α) (l : List α) : List Value := l.flatMap E.enc
theorem ETy.cs_len {α : Type} (E : ETy α) : ∀ l : List α, (E.cs l).length = l.length * E.sz
  | [] => by simp [ETy.cs]
  | x :: l => by
    have ih := E.cs_len l
    unfold ETy.cs at ih ⊢
    rw [List.flatMap_cons, List.length_append, ih, E.hlen, List.length_cons, Nat.succ_mul, Nat.add_comm]
theorem ETy.cs_app {α : Type} (E : ETy α) (l m : List α) : E.cs (l ++ m) = E.cs l ++ E.cs m := by unfold ETy.cs; rw [List.flatMap_append]
theorem ETy.cs_at {α : Type} (E : ETy α) : ∀ (l : List α) (j : Nat) (hj : j < l.length) (i : Nat), i < E.sz → (E.cs l)[j * E.sz + i]? = (E.enc l[j])[i]?
  | [], j, hj, _, _ => absurd hj (by simp)
  | x :: l, 0, _, i, hi => by
    unfold ETy.cs
    rw [List.flatMap_cons, Nat.zero_mul, Nat.zero_add, List.getElem?_append_left (by rw [E.hlen]; exact hi)]
    rfl
  | x :: l, j + 1, hj, i, hi => by
    have ih := E.cs_at l j (by simp at hj; omega) i hi
    unfold ETy.cs at ih ⊢
    rw [List.flatMap_cons, List.getElem?_append_right (by rw [E.hlen, Nat.succ_mul]; omega), E.hlen, show (j + 1) * E.sz + i - E.sz = j * E.sz + i by rw [Nat.succ_mul]; omega, ih]
    rfl
/-- A slice of elements that a call has made (its block lies at base or behind). -/
def GRow {α : Type} (E : ETy α) (base : Nat) (w : World) (v : Value) (l : List α) : Prop := w.ownsRow base E.T E.sz v l.length (E.cs l)
/-- A slice that reads as elements. -/
def GAt {α : Type} (E : ETy α) (w : World) (v : Value) (l : List α) : Prop :=
  ∃ a cap, v = .slice a l.length cap ∧ ∀ j (hj : j < l.length), ∃ g off, a = some ⟨g, off, none⟩ ∧ g < w.heap.size ∧ ∀ i, i < E.sz → w.cell? ⟨g, off + (j * E.sz + i), none⟩ = (E.enc l[j])[i]?
theorem GRow.nil {α : Type} (E : ETy α) (base : Nat) (w : World) : GRow E base w (.slice none 0 0) [] := World.ownsRow_nil _ _ _ _
theorem GRow.read {α : Type} {E : ETy α} {base : Nat} {w : World} {v : Value} {l : List α} (h : GRow E base w v l) :
    (l = [] ∧ v = .slice none 0 0) ∨ ∃ g cap, v = .slice (some ⟨g, 0, none⟩) l.length cap ∧ base ≤ g ∧ g < w.heap.size ∧ l.length ≤ cap ∧ cap ≤ maxLen ∧ ∀ j (hj : j < l.length) i, i < E.sz → w.cell? ⟨g, j * E.sz + i, none⟩ = (E.enc l[j])[i]? := by
  obtain ⟨h1, h2⟩ := id h
  rcases h2 with ⟨hv, hn⟩ | ⟨g, cap, cur, hv, hg, hh, hc, hm, hs, ht⟩
  · exact .inl ⟨List.eq_nil_of_length_eq_zero hn, hv⟩
  · refine .inr ⟨g, cap, hv, hg, (Array.getElem?_eq_some_iff.1 hh).1, hc, hm, fun j hj i hi => ?_⟩
    have h' : w.ownsRow base E.T E.sz (.slice (some ⟨g, 0, none⟩) l.length cap) l.length (E.cs l) := by rw [← hv]; exact h
    rw [World.ownsRow.cellAt h' (j * E.sz + i) (by calc j * E.sz + i < j * E.sz + E.sz := by omega
      _ = (j + 1) * E.sz := by rw [Nat.succ_mul]
      _ ≤ l.length * E.sz := Nat.mul_le_mul_right _ hj), E.cs_at l j hj i hi]
theorem GRow.at' {α : Type} {E : ETy α} {base : Nat} {w : World} {v : Value} {l : List α} (h : GRow E base w v l) : GAt E w v l := by
  rcases h.read with ⟨rfl, rfl⟩ | ⟨g, cap, rfl, _, h1, _, _, h2⟩
  · exact ⟨_, _, rfl, fun j hj => absurd hj (by simp)⟩
  · exact ⟨_, _, rfl, fun j hj => ⟨g, 0, rfl, h1, fun i hi => by rw [Nat.zero_add]; exact h2 j hj i hi⟩⟩
theorem GRow.later {α : Type} {E : ETy α} {base : Nat} {w w' : World} {v : Value} {l : List α} (h : GRow E base w v l) (hb : ∀ g, v.ownBlock = some g → w'.heap[g]? = w.heap[g]?) : GRow E base w' v l := by
  obtain ⟨h1, h2⟩ := h
  refine ⟨h1, ?_⟩
  rcases h2 with h2 | ⟨g, cap, cur, hv, hg, hh, r⟩
  · exact .inl h2
  · exact .inr ⟨g, cap, cur, hv, hg, (hb g (by rw [hv]; rfl)).trans hh, r⟩
theorem GRow.lt {α : Type} {E : ETy α} {base : Nat} {w : World} {v : Value} {l : List α} (h : GRow E base w v l) : ∀ g, v.ownBlock = some g → g < w.heap.size := by
  intro g hg
  rcases h.2 with ⟨rfl, _⟩ | ⟨g', cap, cur, rfl, _, hh, _⟩
  · simp [Value.ownBlock] at hg
  · simp [Value.ownBlock] at hg
    subst hg
    exact (Array.getElem?_eq_some_iff.1 hh).1
theorem GRow.kind {α : Type} {E : ETy α} {base : Nat} {w : World} {v : Value} {l : List α} (h : GRow E base w v l) : ∀ g, v.ownBlock = some g → ∃ c, w.heap[g]? = some (.cells c E.T (0, 0)) := by
  intro g hg
  rcases h.2 with ⟨rfl, _⟩ | ⟨g', cap, cur, rfl, _, hh, _⟩
  · simp [Value.ownBlock] at hg
  · simp [Value.ownBlock] at hg
    subst hg
    exact ⟨cur, hh⟩
theorem GRow.on {α : Type} {E : ETy α} {base : Nat} {w w' : World} {v : Value} {l : List α} (h : GRow E base w v l) (hb : Below w.heap.size w w') : GRow E base w' v l :=
  h.later fun g hg => hb.block g (h.lt g hg)
theorem GRow.snoc {α : Type} {E : ETy α} {base : Nat} {w : World} {v : Value} {l : List α} {x : α} (h : w.ownsRow base E.T E.sz v (l.length + 1) (E.cs l ++ E.enc x)) : GRow E base w v (l ++ [x]) := by
  unfold GRow
  have e : E.cs (l ++ [x]) = E.cs l ++ E.enc x := by unfold ETy.cs; simp
  rw [e, List.length_append]
  exact h
theorem GRow.own {α : Type} {E : ETy α} {base : Nat} {w : World} {v : Value} {l : List α} (h : GRow E base w v l) : ∀ k, v.ownBlock = some k → base ≤ k := fun k hk => (World.ownsRow.lt h k hk).1
theorem GRow.form {α : Type} {E : ETy α} {base : Nat} {w : World} {v : Value} {l : List α} (h : GRow E base w v l) : ∃ a cap, v = .slice a l.length cap := by
  rcases h.read with ⟨rfl, rfl⟩ | ⟨g, cap, rfl, _⟩
  · exact ⟨_, _, rfl⟩
  · exact ⟨_, _, rfl⟩
theorem GRow.frz {α : Type} {E : ETy α} {base : Nat} {w : World} {g n cap : Nat} {l : List α} (h : GRow E base w (.slice (some ⟨g, 0, none⟩) n cap) l) (j : Nat) : w.frozen? ⟨g, j, none⟩ = false := by
  rcases h.2 with ⟨hv, _⟩ | ⟨g', cap', cur, hv, _, hh, _⟩
  · cases hv
  · have e1 : g = g' := by injection hv with e; injection e with e; injection e
    subst e1
    simp [World.frozen?, hh]
theorem GRow.mono {α : Type} {E : ETy α} {base base' : Nat} {w : World} {v : Value} {l : List α} (h : GRow E base w v l) (hb : base' ≤ base) : GRow E base' w v l := by
  obtain ⟨h1, h2⟩ := h
  refine ⟨h1, ?_⟩
  rcases h2 with h2 | ⟨g, cap, cur, hv, hg, r⟩
  · exact .inl h2
  · exact .inr ⟨g, cap, cur, hv, Nat.le_trans hb hg, r⟩
theorem GAt.later {α : Type} {E : ETy α} {w w' : World} {v : Value} {l : List α} (h : GAt E w v l) (hs : w.heap.size ≤ w'.heap.size) (hb : ∀ g, v.ownBlock = some g → w'.heap[g]? = w.heap[g]?) : GAt E w' v l := by
  obtain ⟨a, cap, rfl, h⟩ := h
  refine ⟨a, cap, rfl, fun j hj => ?_⟩
  obtain ⟨g, off, rfl, hg, hc⟩ := h j hj
  refine ⟨g, off, rfl, by omega, fun i hi => ?_⟩
  rw [← hc i hi]
  simp only [World.cell?, hb g rfl]
theorem GAt.on {α : Type} {E : ETy α} {w w' : World} {v : Value} {l : List α} (h : GAt E w v l) (hb : Below w.heap.size w w') : GAt E w' v l := by
  obtain ⟨a, cap, rfl, h⟩ := h
  refine ⟨a, cap, rfl, fun j hj => ?_⟩
  obtain ⟨g, off, rfl, hg, hc⟩ := h j hj
  refine ⟨g, off, rfl, by have := hb.size; omega, fun i hi => ?_⟩
  rw [← hc i hi]
  simp only [World.cell?, hb.block g hg]
theorem GAt.form {α : Type} {E : ETy α} {w : World} {v : Value} {l : List α} (h : GAt E w v l) : ∃ a cap, v = .slice a l.length cap := by
  obtain ⟨a, cap, rfl, _⟩ := h
  exact ⟨_, _, rfl⟩
/-- One element put behind, in a block of its own that was laid last. -/
theorem wpList_snoc_g {α : Type} (E : ETy α) {ops : Array Oper} {rest : List Oper} {o : Oper} {a : Act} {Q : Exit → Act → World → Prop} {w : World} (x : α) (hgd : o.guard = none) (s y : Operand)
    (ho : o.op = .call { callee := .builtin .append, args := #[s, y], argTypes := #[E.ST, E.ST] })
    (base : Nat) (v : Value) (l : List α) (hs : a.eval s = v) (hrow : GRow E base w v l) (c : Nat) (g : Nat) (hx : a.eval y = .slice (some ⟨g, 0, none⟩) 1 c) (hg : Blk w g (E.enc x).toArray) (hlen : l.length ≤ 100000000)
    (hz : base ≤ w.heap.size)
    (h : ∀ v' w', GRow E base w' v' (l ++ [x]) → w.grownBy w' v.ownBlock → wpList Tryz.prog ops Q rest (a.put o.dst v') w') : wpList Tryz.prog ops Q (o :: rest) a w := by
  obtain ⟨i0, hi, hz0, hz1, hz2⟩ := info_parts E.info
  refine wpList_append_own _ hgd s y E.ST ho base E.T i0 E.z E.sz E.bs E.und hi hz0 hz1 hz2 E.hz E.hsz v l.length _ hs hrow ⟨g, 0, none⟩ 1 c (E.enc x) hx (by rw [E.hlen, Nat.one_mul]) (fun j u hu => ?_) (E.hone x) (by unfold maxLen; omega) ?_ hz ?_
  · rw [Lib.add_plain, hg.cell, Nat.zero_add]
    simpa using hu
  · calc (l.length + 1) * E.bs ≤ (l.length + 1) * 1000 := Nat.mul_le_mul_left _ E.hbs
      _ ≤ 140737488355328 := by omega
  intro v' w' hown' hgrow _
  exact h v' w' (GRow.snoc hown') hgrow
/-- .. in a region that draws its order. -/
theorem step_snoc_g {α : Type} (E : ETy α) {ops : Array Oper} {o : Oper} {a : Act} {K : Act → World → Prop} {Q : Exit → Act → World → Prop} {EE : Prop} {w : World} (x : α) (hgd : o.guard = none) (s y : Operand)
    (ho : o.op = .call { callee := .builtin .append, args := #[s, y], argTypes := #[E.ST, E.ST] })
    (base : Nat) (v : Value) (l : List α) (hs : a.eval s = v) (hrow : GRow E base w v l) (c : Nat) (g : Nat) (hx : a.eval y = .slice (some ⟨g, 0, none⟩) 1 c) (hg : Blk w g (E.enc x).toArray) (hlen : l.length ≤ 100000000)
    (hz : base ≤ w.heap.size)
    (h : ∀ v' w', GRow E base w' v' (l ++ [x]) → w.grownBy w' v.ownBlock → K (a.put o.dst v') w') : if Region.wanted o (yielded ops a.tmps) = true then Oper.wp Tryz.prog o a w K Q else EE := by
  have hw : Region.wanted o (yielded ops a.tmps) = true := by simp [Region.wanted, hgd]
  rw [if_pos hw]
  obtain ⟨i0, hi, hz0, hz1, hz2⟩ := info_parts E.info
  refine wp_append_own _ s y E.ST ho base E.T i0 E.z E.sz E.bs E.und hi hz0 hz1 hz2 E.hz E.hsz v l.length _ hs hrow ⟨g, 0, none⟩ 1 c (E.enc x) hx (by rw [E.hlen, Nat.one_mul]) (fun j u hu => ?_) (E.hone x) (by unfold maxLen; omega) ?_ hz ?_
  · rw [Lib.add_plain, hg.cell, Nat.zero_add]
    simpa using hu
  · calc (l.length + 1) * E.bs ≤ (l.length + 1) * 1000 := Nat.mul_le_mul_left _ E.hbs
      _ ≤ 140737488355328 := by omega
  intro v' w' hown' hgrow _
  exact h v' w' (GRow.snoc hown') hgrow
/-- What growing a row keeps. -/
theorem grown_below {B : Nat} {w w' : World} {v : Value} (hg : w.grownBy w' v.ownBlock) (hB : B ≤ w.heap.size) (hv : ∀ k, v.ownBlock = some k → B ≤ k) : Below B w w' := (Below.refl B w).grown hg hB hv
/-- An element turned in place, where each takes one cell. -/
theorem GRow.set1 {α : Type} {E : ETy α} (h1 : E.sz = 1) {base : Nat} {w : World} {v : Value} {l : List α} (h : GRow E base w v l) (j : Nat) (hj : j < l.length) (x : α) (u : Value) (hu : E.enc x = [u]) :
    ∃ g cap, v = .slice (some ⟨g, 0, none⟩) l.length cap ∧ GRow E base (w.setCell ⟨g, j, none⟩ u) v (l.set j x) := by
  obtain ⟨h0, h2⟩ := h
  rcases h2 with ⟨_, hn⟩ | ⟨g, cap, cur, hv, hg, hh, hc, hm, hs, ht⟩
  · omega
  refine ⟨g, cap, hv, by rw [E.cs_len], .inr ⟨g, cap, cur.setIfInBounds j u, by rw [List.length_set]; exact hv, hg, Go.Joins.block_setCell hh _, by rw [List.length_set]; exact hc, hm, by rw [Array.size_setIfInBounds]; exact hs, ?_⟩⟩
  have hset : ∀ (l : List α) (j : Nat), E.cs (l.set j x) = (E.cs l).set j u := by
    intro l
    induction l with
    | nil => intro j; rfl
    | cons y l ih =>
      intro j
      have hy := E.hlen y
      rw [h1] at hy
      obtain ⟨c, hc⟩ := List.length_eq_one_iff.1 hy
      cases j with
      | zero =>
        show E.enc x ++ E.cs l = (E.enc y ++ E.cs l).set 0 u
        rw [hu, hc]
        rfl
      | succ j =>
        show E.enc y ++ E.cs (l.set j x) = (E.enc y ++ E.cs l).set (j + 1) u
        rw [ih j, hc]
        rfl
  rw [List.length_set, Array.toList_setIfInBounds, List.take_set, ht, hset]
end Go.Proofs.YtgbemhehbhlgpaaGreatDoor
