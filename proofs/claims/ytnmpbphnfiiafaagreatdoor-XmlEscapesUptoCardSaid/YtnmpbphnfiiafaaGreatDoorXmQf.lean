/-
  The document's answer: the scan as a whole: what it has told, which elements are open, its text.
-/
import Derived.Test.YtnmpbphnfiiafaaGreatDoorXmQe
namespace Go.Proofs.YtnmpbphnfiiafaaGreatDoor
open Go.RowKit Go.PlainAid

/-- The scan's rows. -/
structure ScR (lo : Nat) (ov pv tv : Value) (out : List Tk) (pile : List ByteArray) (text : List UInt8) (w : World) : Prop where
  out : OutAt lo w ov out
  pile : GRow StrE lo w pv pile
  text : Br lo w tv text
  lo : lo ≤ w.heap.size
section
variable {lo cb : Nat} {s : ByteArray} {p : Nat} {e a : Int} {ov pv tv c4 c5 c6 c7 : Value} {out : List Tk} {pile : List ByteArray} {text : List UInt8} {w w' w6 : World}
theorem Br.kind {v : Value} {l : List UInt8} (h : Br lo w v l) : ∀ g, v.ownBlock = some g → ∃ c, w.heap[g]? = some (.cells c 5 (0, 0)) := fun g hg => by
  rcases h.2 with ⟨rfl, _⟩ | ⟨g', cap, cur, rfl, _, hh, _⟩
  · simp [Value.ownBlock] at hg
  · simp [Value.ownBlock] at hg
    subst hg
    exact ⟨cur, hh⟩
/-- All that lies from lo on stays. -/
theorem ScR.later (h : ScR lo ov pv tv out pile text w) (hb : ∀ k, lo ≤ k → k < w.heap.size → w'.heap[k]? = w.heap[k]?) (hz : w.heap.size ≤ w'.heap.size) : ScR lo ov pv tv out pile text w' := by
  have hown := h.out.own
  refine ⟨h.out.later (fun g hg => ?_) (fun g c hg hc => hb g hg (lt_some hc)), h.pile.later (fun g hg => hb g (h.pile.own g hg) (h.pile.lt g hg)), h.text.later (fun g hg => hb g (h.text.lt g hg).1 (h.text.lt g hg).2), Nat.le_trans h.lo hz⟩
  obtain ⟨h1, c, h2⟩ := hown g hg
  exact hb g h1 (lt_some h2)
theorem ScR.on (h : ScR lo ov pv tv out pile text w) (hB : Below w.heap.size w w') : ScR lo ov pv tv out pile text w' := h.later (fun k _ hk => hB.block k hk) hB.size
theorem ScR.keep (h : ScR lo ov pv tv out pile text w) (hK : KeepX w.heap.size cb w w') (hcb : cb < lo) : ScR lo ov pv tv out pile text w' := h.later (fun k hk hk2 => hK.block k hk2 (by omega)) hK.size
theorem ScR.set (h : ScR lo ov pv tv out pile text w) (hcb : cb < lo) (i : Nat) (u : Value) : ScR lo ov pv tv out pile text (w.setCell ⟨cb, i, none⟩ u) := h.later (fun k hk _ => Below.heap_setCell _ _ _ _ (by simp; omega)) (by simp [World.setCell])
theorem ScnM.next {e' a' : Int} {q : Nat} {w1 w2 : World} (h : ScnM cb s e a c4 c5 c6 c7 w p w1) (k : ScnM cb s e' a' c4 c5 c6 c7 w1 q w2) : ScnM cb s e' a' c4 c5 c6 c7 w q w2 := ⟨k.1, h.2.trans (k.2.mono h.2.size)⟩
theorem Scn.low (h : Scn cb s p e a c4 c5 c6 c7 w) (hcb : cb < lo) (hB : Below lo w w') : Scn cb s p e a c4 c5 c6 c7 w' := (hB.block cb hcb).trans h
theorem Scn.lt (h : Scn cb s p e a c4 c5 c6 c7 w) : cb < w.heap.size := lt_some h
theorem Scn.set4 (h : Scn cb s p e a c4 c5 c6 c7 w) (u : Value) : Scn cb s p e a u c5 c6 c7 (w.setCell ⟨cb, 4, none⟩ u) := setH h 4 _
theorem Scn.set5 (h : Scn cb s p e a c4 c5 c6 c7 w) (u : Value) : Scn cb s p e a c4 u c6 c7 (w.setCell ⟨cb, 5, none⟩ u) := setH h 5 _
theorem Scn.set6 (h : Scn cb s p e a c4 c5 c6 c7 w) (u : Value) : Scn cb s p e a c4 c5 u c7 (w.setCell ⟨cb, 6, none⟩ u) := setH h 6 _
theorem Scn.set7 (h : Scn cb s p e a c4 c5 c6 c7 w) (u : Value) : Scn cb s p e a c4 c5 c6 u (w.setCell ⟨cb, 7, none⟩ u) := setH h 7 _
theorem Scn.cell4 (h : Scn cb s p e a c4 c5 c6 c7 w) : w.cell? ⟨cb, 4, none⟩ = some c4 := cellH h 4
theorem Scn.cell5 (h : Scn cb s p e a c4 c5 c6 c7 w) : w.cell? ⟨cb, 5, none⟩ = some c5 := cellH h 5
theorem Scn.cell6 (h : Scn cb s p e a c4 c5 c6 c7 w) : w.cell? ⟨cb, 6, none⟩ = some c6 := cellH h 6
theorem Scn.cell7 (h : Scn cb s p e a c4 c5 c6 c7 w) : w.cell? ⟨cb, 7, none⟩ = some c7 := cellH h 7
theorem Scn.free (h : Scn cb s p e a c4 c5 c6 c7 w) (i : Nat) : w.frozen? ⟨cb, i, none⟩ = false := freeH h i
/-- What an append of the own kind leaves. -/
theorem grown_key {o : Obj} {v : Value} (hlo : lo ≤ w.heap.size) (hown : ∀ g, v.ownBlock = some g → lo ≤ g) (hg : (w.alloc o).grownBy w6 v.ownBlock) : (∀ k, k < w.heap.size → v.ownBlock ≠ some k → w6.heap[k]? = w.heap[k]?) ∧ w.heap.size ≤ w6.heap.size ∧ Below lo w w6 := by
  have hz0 : w.heap.size ≤ (w.alloc o).heap.size := by simp
  have hz : w.heap.size ≤ w6.heap.size := Nat.le_trans hz0 hg.size
  have key : ∀ k, k < w.heap.size → v.ownBlock ≠ some k → w6.heap[k]? = w.heap[k]? := fun k hk hn =>
    (hg.block k (by simp; omega) (fun e => hn e.symm)).trans (Lib.alloc_old w _ k hk)
  exact ⟨key, hz, ⟨hg.os, hg.tape, hg.output, hz, fun k hk => key k (Nat.lt_of_lt_of_le hk hlo) (fun e => by have := hown k e; omega)⟩⟩
/-- Tokens are told. -/
theorem ScR.told (h : ScR lo ov pv tv out pile text w) {ms xs : List TkM} {ts : List Tk} (h2 : ms.length = out.length) (h3 : ∀ j (h : j < ms.length) (h' : j < out.length), TkOk lo w ms[j] out[j]) (h4 : xs.length = ts.length) (h5 : ∀ j (h : j < xs.length) (h' : j < ts.length), TkOk lo w xs[j] ts[j]) {o : Obj} {v' : Value} (hrow : GRow TkE lo w6 v' (ms ++ xs)) (hg : (w.alloc o).grownBy w6 ov.ownBlock) :
    ScR lo v' pv tv (out ++ ts) pile text w6 ∧ Below lo w w6 ∧ (∀ k, k < w.heap.size → ov.ownBlock ≠ some k → w6.heap[k]? = w.heap[k]?) := by
  have hown := h.out.own
  obtain ⟨key, hz, hB⟩ := grown_key h.lo (fun g hg => (hown g hg).1) hg
  have hat : ∀ g c, lo ≤ g → w.heap[g]? = some (.cells c 47 (0, 0)) → w6.heap[g]? = w.heap[g]? := fun g c hg hc => key g (lt_some hc) (fun e => by
    obtain ⟨c', hc'⟩ := (hown g e).2
    exact kinds_ne hc hc' (by decide))
  refine ⟨⟨⟨ms ++ xs, hrow, by rw [List.length_append, List.length_append, h2, h4], fun j hj hj' => ?_⟩, h.pile.later (fun g hv => key g (h.pile.lt g hv) (fun e => ?_)), h.text.later (fun g hv => key g (h.text.lt g hv).2 (fun e => ?_)), Nat.le_trans h.lo hz⟩, hB, key⟩
  · by_cases hlt : j < ms.length
    · rw [List.getElem_append_left hlt, List.getElem_append_left (by omega)]
      exact (h3 j hlt (by omega)).later hat
    · rw [List.getElem_append_right (by omega), List.getElem_append_right (by omega)]
      have e : j - ms.length = j - out.length := by omega
      simp only [e]
      rw [List.length_append] at hj hj'
      exact (h5 (j - out.length) (by omega) (by omega)).later hat
  · obtain ⟨c, hc⟩ := h.pile.kind g hv
    obtain ⟨c', hc'⟩ := (hown g e).2
    exact kinds_ne hc hc' (by decide)
  · obtain ⟨c, hc⟩ := h.text.kind g hv
    obtain ⟨c', hc'⟩ := (hown g e).2
    exact kinds_ne hc hc' (by decide)
/-- An element is opened. -/
theorem ScR.pushed (h : ScR lo ov pv tv out pile text w) {nm : ByteArray} {o : Obj} {v' : Value} (hrow : GRow StrE lo w6 v' (pile ++ [nm])) (hg : (w.alloc o).grownBy w6 pv.ownBlock) :
    ScR lo ov v' tv out (pile ++ [nm]) text w6 ∧ Below lo w w6 ∧ (∀ k, k < w.heap.size → pv.ownBlock ≠ some k → w6.heap[k]? = w.heap[k]?) := by
  have hown := h.out.own
  have hpo : ∀ g, pv.ownBlock = some g → lo ≤ g ∧ ∃ c, w.heap[g]? = some (.cells c 9 (0, 0)) := fun g hv => ⟨h.pile.own g hv, h.pile.kind g hv⟩
  obtain ⟨key, hz, hB⟩ := grown_key h.lo (fun g hg => (hpo g hg).1) hg
  refine ⟨⟨h.out.later (fun g hv => ?_) (fun g c hg hc => key g (lt_some hc) (fun e => ?_)), hrow, h.text.later (fun g hv => key g (h.text.lt g hv).2 (fun e => ?_)), Nat.le_trans h.lo hz⟩, hB, key⟩
  · obtain ⟨h1, c, hc⟩ := hown g hv
    exact key g (lt_some hc) (fun e => by
      obtain ⟨c', hc'⟩ := (hpo g e).2
      exact kinds_ne hc hc' (by decide))
  · obtain ⟨c', hc'⟩ := (hpo g e).2
    exact kinds_ne hc hc' (by decide)
  · obtain ⟨c, hc⟩ := h.text.kind g hv
    obtain ⟨c', hc'⟩ := (hpo g e).2
    exact kinds_ne hc hc' (by decide)
/-- Bytes are put behind the text. -/
theorem ScR.wrote (h : ScR lo ov pv tv out pile text w) {l : List UInt8} {v' : Value} (hrow : Br lo w6 v' (text ++ l)) (hg : w.grownBy w6 tv.ownBlock) :
    ScR lo ov pv v' out pile (text ++ l) w6 ∧ Below lo w w6 := by
  have hown := h.out.own
  have hto := h.text.lt
  have hB : Below lo w w6 := ⟨hg.os, hg.tape, hg.output, hg.size, fun k hk => hg.block k (Nat.lt_of_lt_of_le hk h.lo) (fun e => by have := (hto k e.symm).1; omega)⟩
  have key : ∀ k, k < w.heap.size → tv.ownBlock ≠ some k → w6.heap[k]? = w.heap[k]? := fun k hk hn => hg.block k hk (fun e => hn e.symm)
  refine ⟨⟨h.out.later (fun g hv => ?_) (fun g c hg hc => key g (lt_some hc) (fun e => ?_)), h.pile.later (fun g hv => key g (h.pile.lt g hv) (fun e => ?_)), hrow, Nat.le_trans h.lo hg.size⟩, hB⟩
  · obtain ⟨h1, c, hc⟩ := hown g hv
    exact key g (lt_some hc) (fun e => by
      obtain ⟨c', hc'⟩ := h.text.kind g e
      exact kinds_ne hc hc' (by decide))
  · obtain ⟨c', hc'⟩ := h.text.kind g e
    exact kinds_ne hc hc' (by decide)
  · obtain ⟨c, hc⟩ := h.pile.kind g hv
    obtain ⟨c', hc'⟩ := h.text.kind g e
    exact kinds_ne hc hc' (by decide)
/-- An element is closed. -/
theorem ScR.popped {pg n pc : Nat} (h : ScR lo ov (.slice (some ⟨pg, 0, none⟩) (n + 1) pc) tv out pile text w) : ScR lo ov (.slice (some ⟨pg, 0, none⟩) n pc) tv out pile.dropLast text w := by
  have hlen : pile.length = n + 1 := by
    obtain ⟨a, c, e⟩ := h.pile.form
    injection e with _ e _
    exact e.symm
  obtain ⟨p, x, rfl⟩ : ∃ p x, pile = p ++ [x] := ⟨pile.dropLast, pile.getLast (by intro e; rw [e] at hlen; simp at hlen), (List.dropLast_concat_getLast _).symm⟩
  rw [List.length_append, List.length_singleton] at hlen
  have hn : p.length = n := by omega
  subst hn
  have hrow : GRow StrE lo w (.slice (some ⟨pg, 0, none⟩) p.length pc) p := by
    have hp := h.pile
    unfold GRow at hp ⊢
    rw [List.length_append, List.length_singleton, show StrE.cs (p ++ [x]) = StrE.cs p ++ [.string x] by simp [ETy.cs, StrE]] at hp
    exact ownsRow_pop (by rw [ETy.cs_len]) hp
  rw [List.dropLast_concat]
  exact ⟨h.out, hrow, h.text, h.lo⟩
theorem ScR.noText (h : ScR lo ov pv tv out pile text w) : ScR lo ov pv (.slice none 0 0) out pile [] w := ⟨h.out, h.pile, Br.nil _ _, h.lo⟩
end
end Go.Proofs.YtnmpbphnfiiafaaGreatDoor
