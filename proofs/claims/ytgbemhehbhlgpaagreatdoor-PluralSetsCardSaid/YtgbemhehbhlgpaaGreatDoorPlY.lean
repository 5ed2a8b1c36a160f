/-
  Rules for numbers: the rows of tests that Parse gathers.
-/
import Derived.Test.YtgbemhehbhlgpaaGreatDoorPlX
namespace Go.Proofs.YtgbemhehbhlgpaaGreatDoor
open Go.RowKit Go.PlainAid

/-- A row of tests that the call has made, in a block between two marks. -/
def RowO (lo b0 b1 : Nat) (w : World) (v : Value) (rs : List Rl) : Prop :=
  ∃ ys : List (Nat × Array Value), GRow TsE b0 w v ys ∧ (∀ g, v.ownBlock = some g → g < b1) ∧ ys.length = rs.length ∧ ∀ j (hj : j < ys.length) (hr : j < rs.length), Asks lo w (TsV ys[j]) (fun ds k => rlH ds k rs[j])
structure AQ (lo ab : Nat) (rows : List (List Rl)) (av : Value) (xs : List (Option Addr × Nat × Nat)) (base : Nat) (w : World) : Prop where
  cell : w.heap[ab]? = some (.cells #[av] 96 (0, 0))
  out : GRow RwE lo w av xs
  len : xs.length = rows.length
  b1 : lo ≤ base
  b2 : base ≤ w.heap.size
  abl : ab < lo
  ini : ∀ i (hi : i < xs.length) (hr : i < rows.length), i + 1 < xs.length → RowO lo lo base w (RwV xs[i]) rows[i]
  lst : ∀ i (hi : i < xs.length) (hr : i < rows.length), i + 1 = xs.length → RowO lo base w.heap.size w (RwV xs[i]) rows[i]

theorem RowO.keep {lo b0 b1 b1' : Nat} {w w' : World} {v : Value} {rs : List Rl} (h : RowO lo b0 b1 w v rs) (hF : Fr lo w w') (hk : ∀ g, v.ownBlock = some g → w'.heap[g]? = w.heap[g]?) (hb : b1 ≤ b1') : RowO lo b0 b1' w' v rs := by
  obtain ⟨ys, h1, h2, h3, h4⟩ := h
  exact ⟨ys, h1.later hk, fun g hg => Nat.lt_of_lt_of_le (h2 g hg) hb, h3, fun j hj hr => (h4 j hj hr).on hF⟩
theorem AQ.kp {lo ab sb bb base : Nat} {rows : List (List Rl)} {av : Value} {xs : List (Option Addr × Nat × Nat)} {w w' : World} (h : AQ lo ab rows av xs base w) (hk : KP sb bb w w') (hz : w.heap.size ≤ w'.heap.size) (h1 : sb < lo) (h2 : bb < lo) (h3 : ab ≠ sb) (h4 : ab ≠ bb) : AQ lo ab rows av xs base w' := by
  have hF : Fr lo w w' := hk.fr h1 h2
  have hrow : ∀ {b0 b1 b1' : Nat} {v : Value} {rs : List Rl}, lo ≤ b0 → b1 ≤ b1' → RowO lo b0 b1 w v rs → RowO lo b0 b1' w' v rs := by
    intro b0 b1 b1' v rs hb hb' hr
    refine hr.keep hF (fun g hg => ?_) hb'
    obtain ⟨ys, k1, _⟩ := hr
    obtain ⟨c, hc⟩ := k1.kind g hg
    have := k1.own g hg
    rw [hk g _ hc (by omega) (by omega) (fun c' fz e => absurd (show TsE.T = _ by injection e) (by decide)), hc]
  refine ⟨hk _ _ h.cell h3 h4 (fun c fz e => absurd (show 96 = 5 by injection e) (by decide)), ?_, h.len, h.b1, Nat.le_trans h.b2 hz, h.abl, fun i hi hr hl => hrow (Nat.le_refl _) (Nat.le_refl _) (h.ini i hi hr hl), fun i hi hr hl => hrow h.b1 hz (h.lst i hi hr hl)⟩
  refine h.out.later fun g hg => ?_
  obtain ⟨c, hc⟩ := h.out.kind g hg
  have := h.out.own g hg
  rw [hk g _ hc (by omega) (by omega) (fun c' fz e => absurd (show RwE.T = _ by injection e) (by decide)), hc]
theorem Fr.grown {α : Type} {E : ETy α} {lo base : Nat} {w w' : World} {v : Value} {l : List α} (hr : GRow E base w v l) (hg : w.grownBy w' v.ownBlock) (hE : E.T = 74 ∨ E.T = 104) : Fr lo w w' := fun k o _ ho hn => by
  rw [hg.block k (lt_some ho) (fun e => ?_)]
  · exact ho
  · obtain ⟨c, hc⟩ := hr.kind k e.symm
    rw [ho] at hc
    injection hc with hc
    rcases hE with hE | hE
    · rw [hE] at hc; exact (hn c (0, 0)).2.1 hc
    · rw [hE] at hc; exact (hn c (0, 0)).2.2 hc
/-- A new row, empty, behind the rows. -/
theorem AQ.row {lo ab base : Nat} {rows : List (List Rl)} {av av' : Value} {xs : List (Option Addr × Nat × Nat)} {w w' : World} (h : AQ lo ab rows av xs base w) (hr : GRow RwE lo w' av' (xs ++ [(none, 0, 0)])) (hg : w.grownBy w' av.ownBlock) (hz : w.heap.size ≤ w'.heap.size) :
    AQ lo ab (rows ++ [[]]) av' (xs ++ [(none, 0, 0)]) w'.heap.size (w'.setCell ⟨ab, 0, none⟩ av') := by
  have hs : (w'.setCell ⟨ab, 0, none⟩ av').heap.size = w'.heap.size := by simp [World.setCell]
  have ho : ∀ k, k ≠ ab → (w'.setCell ⟨ab, 0, none⟩ av').heap[k]? = w'.heap[k]? := fun k hk => Below.heap_setCell _ _ _ _ hk
  have habl := h.abl
  have hF : Fr lo w (w'.setCell ⟨ab, 0, none⟩ av') := (Fr.grown h.out hg (.inr rfl)).trans (Fr.set _ _ h.abl)
  have hc : w'.heap[ab]? = some (.cells #[av] 96 (0, 0)) := by
    rw [hg.block ab (lt_some h.cell) (fun e => by have := h.out.own ab e.symm; omega)]
    exact h.cell
  have hrow : ∀ {b0 b1 b1' : Nat} {v : Value} {rs : List Rl}, lo ≤ b0 → b1 ≤ b1' → RowO lo b0 b1 w v rs → RowO lo lo b1' (w'.setCell ⟨ab, 0, none⟩ av') v rs := by
    intro b0 b1 b1' v rs hb hb' hr
    have hm : RowO lo lo b1 w v rs := by
      obtain ⟨ys, k1, k2⟩ := hr
      exact ⟨ys, k1.mono hb, k2⟩
    refine hm.keep hF (fun g hg' => ?_) hb'
    obtain ⟨ys, k1, _⟩ := hr
    obtain ⟨c, hcc⟩ := k1.kind g hg'
    have := k1.own g hg'
    rw [ho g (by omega), hg.block g (lt_some hcc) (fun e => ?_)]
    obtain ⟨c2, hc2⟩ := h.out.kind g e.symm
    rw [hcc] at hc2
    injection hc2 with hc2
    injection hc2 with _ hc2
    exact absurd hc2 (by decide)
  refine ⟨Go.Joins.block_setCell hc av', hr.later fun g hg' => ho g (by have := hr.own g hg'; omega), by rw [List.length_append, List.length_append, h.len]; rfl, by have := h.b1; have := h.b2; omega, by rw [hs]; exact Nat.le_refl _, h.abl, ?_, ?_⟩
  · intro i hi hri hl
    rw [List.length_append, one_len] at hl
    have hi' : i < xs.length := by omega
    have hr' : i < rows.length := by rw [← h.len]; exact hi'
    rw [List.getElem_append_left hi', List.getElem_append_left hr']
    by_cases e : i + 1 = xs.length
    · exact hrow h.b1 hz (h.lst i hi' hr' e)
    · exact hrow (Nat.le_refl _) (by have := h.b2; omega) (h.ini i hi' hr' (by omega))
  · intro i hi hri hl
    rw [List.length_append, one_len] at hl
    have e1 : i = xs.length := by omega
    subst e1
    have e2 : (xs ++ [(none, 0, 0)])[xs.length]'hi = (none, 0, 0) := by simp
    have e3 : (rows ++ [[]])[xs.length]'hri = [] := by simp [h.len]
    rw [e2, e3]
    exact ⟨[], GRow.nil TsE _ _, fun g hg' => by simp [RwV, Value.ownBlock] at hg', rfl, fun j hj => absurd hj (by simp)⟩
/-- A test behind the last row. -/
theorem AQ.put {lo ab base ob n cap : Nat} {rows : List (List Rl)} {rs : List Rl} {av : Value} {xs : List (Option Addr × Nat × Nat)} {w w' : World} (h : AQ lo ab rows av xs base w) (j : Nat) (hj : j + 1 = xs.length) (hjr : j < rows.length) (hrs : rows[j] = rs) (x x' : Option Addr × Nat × Nat) (hx : xs[j]'(by omega) = x)
    (ys : List (Nat × Array Value)) (y : Nat × Array Value) (r : Rl) (hys : ys.length = rs.length) (hasks : ∀ i (hi : i < ys.length) (hr : i < rs.length), Asks lo w (TsV ys[i]) (fun ds k => rlH ds k rs[i])) (hold : GRow TsE base w (RwV x) ys)
    (hnew : GRow TsE base w' (RwV x') (ys ++ [y])) (hg : w.grownBy w' (RwV x).ownBlock) (hz : w.heap.size ≤ w'.heap.size) (hy : Asks lo w' (TsV y) (fun ds k => rlH ds k r)) (hav : av = .slice (some ⟨ob, 0, none⟩) n cap) :
    AQ lo ab (rows.set j (rs ++ [r])) av (xs.set j x') base (w'.setCell ⟨ob, j, none⟩ (RwV x')) := by
  have habl := h.abl
  have hb1 := h.b1
  have hobk : av.ownBlock = some ob := by rw [hav]; rfl
  have hoblo := h.out.own ob hobk
  obtain ⟨co, hco⟩ := h.out.kind ob hobk
  have hF1 : Fr lo w w' := Fr.grown hold hg (.inl rfl)
  have hs : (w'.setCell ⟨ob, j, none⟩ (RwV x')).heap.size = w'.heap.size := by simp [World.setCell]
  have ho : ∀ k, k ≠ ob → (w'.setCell ⟨ob, j, none⟩ (RwV x')).heap[k]? = w'.heap[k]? := fun k hk => Below.heap_setCell _ _ _ _ hk
  have hob' : w'.heap[ob]? = some (.cells co RwE.T (0, 0)) := by
    rw [hg.block ob (lt_some hco) (fun e => ?_)]
    · exact hco
    · obtain ⟨c2, hc2⟩ := hold.kind ob e.symm
      rw [hco] at hc2
      injection hc2 with hc2
      injection hc2 with _ hc2
      exact absurd hc2 (by decide)
  have hF2 : Fr lo w' (w'.setCell ⟨ob, j, none⟩ (RwV x')) := fun k o _ hk hn => by
    rw [ho k (fun e => ?_)]
    · exact hk
    · rw [e, hob'] at hk
      injection hk with hk
      exact (hn co (0, 0)).2.2 hk.symm
  have hF := hF1.trans hF2
  have hout' : GRow RwE lo w' av xs := h.out.later fun g hgg => by
    rw [hobk] at hgg
    injection hgg with hgg
    rw [← hgg, hob', hco]
  obtain ⟨g2, cap2, hav2, hset⟩ := hout'.set1 rfl j (by omega) x' (RwV x') rfl
  have eg : g2 = ob := by
    rw [hav] at hav2
    injection hav2 with e
    injection e with e
    injection e with e
    exact e.symm
  subst eg
  have htest : ∀ g c, w'.heap[g]? = some (.cells c TsE.T (0, 0)) → g ≠ g2 := fun g c hc e => by
    rw [e, hob'] at hc
    injection hc with hc
    injection hc with _ hc
    exact absurd hc (by decide)
  refine ⟨?_, hset, by rw [List.length_set, List.length_set]; exact h.len, h.b1, by rw [hs]; have := h.b2; omega, h.abl, ?_, ?_⟩
  · rw [ho ab (by omega), hg.block ab (lt_some h.cell) (fun e => by have := hold.own ab e.symm; omega)]
    exact h.cell
  · intro i hi hri hl
    have hi' : i < xs.length := by rw [List.length_set] at hi; exact hi
    have hri' : i < rows.length := by rw [List.length_set] at hri; exact hri
    rw [List.length_set] at hl
    have hij : i ≠ j := by omega
    have e1 : (xs.set j x')[i]'hi = xs[i]'hi' := by rw [List.getElem_set_ne (by omega)]
    have e2 : (rows.set j (rs ++ [r]))[i]'hri = rows[i]'hri' := by rw [List.getElem_set_ne (by omega)]
    rw [e1, e2]
    have hro := h.ini i hi' hri' hl
    refine hro.keep hF (fun g hgg => ?_) (Nat.le_refl _)
    obtain ⟨zs, k1, k2, _⟩ := hro
    obtain ⟨c, hc⟩ := k1.kind g hgg
    have hlt := k2 g hgg
    have hc' : w'.heap[g]? = w.heap[g]? := hg.block g (lt_some hc) (fun e => by have := hold.own g e.symm; omega)
    rw [ho g (htest g c (hc'.trans hc)), hc']
  · intro i hi hri hl
    have hi' : i < xs.length := by rw [List.length_set] at hi; exact hi
    have hri' : i < rows.length := by rw [List.length_set] at hri; exact hri
    rw [List.length_set] at hl
    have hij : i = j := by omega
    subst hij
    have e1 : (xs.set i x')[i]'hi = x' := by rw [List.getElem_set_self]
    have e2 : (rows.set i (rs ++ [r]))[i]'hri = rs ++ [r] := by rw [List.getElem_set_self]
    rw [e1, e2, hs]
    refine ⟨ys ++ [y], hnew.later fun g hgg => ?_, fun g hgg => hnew.lt g hgg, by rw [List.length_append, List.length_append, hys]; rfl, ?_⟩
    · obtain ⟨c, hc⟩ := hnew.kind g hgg
      exact ho g (htest g c hc)
    · intro q hq hqr
      rw [List.length_append, one_len] at hq
      by_cases e : q < ys.length
      · rw [List.getElem_append_left e, List.getElem_append_left (by omega)]
        exact (hasks q e (by omega)).on hF
      · have e3 : q = ys.length := by omega
        subst e3
        have e4 : (ys ++ [y])[ys.length]'(by rw [List.length_append, one_len]; omega) = y := by simp
        have e5 : (rs ++ [r])[ys.length]'hqr = r := by simp [hys]
        rw [e4, e5]
        exact hy.on hF2
/-- The rows as they are read. -/
theorem AQ.is {lo ab base : Nat} {rows : List (List Rl)} {av : Value} {xs : List (Option Addr × Nat × Nat)} {w : World} (h : AQ lo ab rows av xs base w) : AnyIs lo w av rows := by
  refine ⟨xs, h.out.at', h.len, fun i hi hr => ?_⟩
  by_cases e : i + 1 = xs.length
  · obtain ⟨ys, k1, _, k3, k4⟩ := h.lst i hi hr e
    exact ⟨ys, k1.at', k3, k4⟩
  · obtain ⟨ys, k1, _, k3, k4⟩ := h.ini i hi hr (by omega)
    exact ⟨ys, k1.at', k3, k4⟩
end Go.Proofs.YtgbemhehbhlgpaaGreatDoor
