/-
  The deferred closures that turn the walk's end into an answer.
-/
import Derived.Test.YtnmpbphnfiiafaaGreatDoorXmEd
import Derived.Defers
import Derived.Recover
import Derived.Laws.Pointers
namespace Go.Proofs.YtnmpbphnfiiafaaGreatDoor
open Go.RowKit Go.PlainAid

theorem assert_fault (v : Value) (xT : TypeId) (w : World) : (Instr.typeAssert (.iface 65 v) xT 65 true).run Tryz.prog w = .ok (.tuple #[v, .bool true]) w := by
  simp [Instr.typeAssert, run_underlying Tryz.underlying65]
/-- The closure's work: nothing handed back, the fault as the spot. -/
structure Caught (lb sb : Nat) (lv : Value) (e a : Int) (w w' : World) : Prop where
  l : w'.cell? ⟨lb, 0, none⟩ = some lv
  s0 : w'.cell? ⟨sb, 0, none⟩ = some (.int .i64 e)
  s1 : w'.cell? ⟨sb, 1, none⟩ = some (.int .i64 a)
  os : w'.os = w.os
  tape : w'.tape = w.tape
  output : w'.output = w.output
  size : w.heap.size ≤ w'.heap.size
  block : ∀ k, k < w.heap.size → k ≠ lb → k ≠ sb → w'.heap[k]? = w.heap[k]?
theorem caught_of {lb sb : Nat} {lv x y z : Value} {e a : Int} {w W : World} (hB : Below w.heap.size w W) (hl : W.cell? ⟨lb, 0, none⟩ = some x) (hs0 : W.cell? ⟨sb, 0, none⟩ = some y) (hs1 : W.cell? ⟨sb, 1, none⟩ = some z) (hne : lb ≠ sb) :
    Caught lb sb lv e a w (((W.drew.setCell ⟨lb, 0, none⟩ lv).setCell ⟨sb, 0, none⟩ (.int .i64 e)).setCell ⟨sb, 1, none⟩ (.int .i64 a)) := by
  have hd : ∀ k j, W.drew.cell? ⟨k, j, none⟩ = W.cell? ⟨k, j, none⟩ := fun k j => rfl
  have e1 : (W.drew.setCell ⟨lb, 0, none⟩ lv).cell? ⟨lb, 0, none⟩ = some lv := World.cell?_setCell_same' _ _ _ (by rw [hd, hl]; rfl)
  have e2 : (W.drew.setCell ⟨lb, 0, none⟩ lv).cell? ⟨sb, 0, none⟩ = some y := by rw [World.cell?_setCell_other _ _ _ _ (by simp), hd, hs0]
  have e3 : (W.drew.setCell ⟨lb, 0, none⟩ lv).cell? ⟨sb, 1, none⟩ = some z := by rw [World.cell?_setCell_other _ _ _ _ (by simp), hd, hs1]
  refine ⟨?_, ?_, ?_, hB.os, hB.tape, hB.output, by simpa [World.setCell] using hB.size, fun k hk h1 h2 => ?_⟩
  · rw [World.cell?_setCell_other _ _ _ _ (by simp), World.cell?_setCell_other _ _ _ _ (by simp), e1]
  · rw [World.cell?_setCell_other _ _ _ _ (by simp)]
    exact World.cell?_setCell_same' _ _ _ (by rw [e2]; rfl)
  · refine World.cell?_setCell_same' _ _ _ ?_
    rw [World.cell?_setCell_other _ _ _ _ (by simp), e3]
    rfl
  · rw [Below.heap_setCell _ _ _ _ (by simpa using h2), Below.heap_setCell _ _ _ _ (by simpa using h2), Below.heap_setCell _ _ _ _ (by simpa using h1)]
    exact hB.block k hk

set_option maxRecDepth 100000 in
theorem idle_tokens (p q : Value) (w : World) :
    CallsD Tryz.prog 39 #[p, q] .returning w fun e u' w' => e = .returned (.tuple #[]) ∧ u' = .returning ∧ w' = w := by
  refine callsD_of_wpS Tryz.func39 rfl fun c₀ cs hu => ?_
  apply wpS_seq
  apply wpS_region
  simp [wpOpsS, go_sem, recoverD, hu, Tryz.ntmps39, Exit.thenS]
  apply wpS_seq
  apply wpS_region
  simp [wpOpsS, go_sem, Exit.thenS]
  refine wpS_cond (t := false) (by simp [Act.eval]) ?_
  simp only [Bool.false_eq_true, if_false]
  refine wpS_of_wp (wp_skip ?_)
  cases c₀
  simp_all [bodyPostS, results, Tryz.results39]

set_option maxRecDepth 100000 in
set_option maxHeartbeats 1000000 in
theorem catch_tokens (lb sb : Nat) (x y z : Value) (e a : Int) (older : List PanicEntry) (w : World) (hl : w.cell? ⟨lb, 0, none⟩ = some x) (hs0 : w.cell? ⟨sb, 0, none⟩ = some y) (hs1 : w.cell? ⟨sb, 1, none⟩ = some z)
    (fl : w.frozen? ⟨lb, 0, none⟩ = false) (f0 : w.frozen? ⟨sb, 0, none⟩ = false) (f1 : w.frozen? ⟨sb, 1, none⟩ = false) (hne : lb ≠ sb) :
    CallsD Tryz.prog 39 #[.pointer (some ⟨lb, 0, none⟩), .pointer (some ⟨sb, 0, none⟩)] (.panicking ({ v := .iface 65 (.agg #[.int .i64 e, .int .i64 a]), recovered := false } :: older)) w fun en u' w' =>
      en = .returned (.tuple #[]) ∧ u' = .panicking ({ v := .iface 65 (.agg #[.int .i64 e, .int .i64 a]), recovered := true } :: older) ∧ Caught lb sb (.slice none 0 0) e a w w' := by
  have hll := World.block_lt_of_cell? w _ hl
  have hsl := World.block_lt_of_cell? w _ hs0
  simp only at hll hsl
  have hn1 : lb ≠ w.heap.size := by omega
  have hn2 : sb ≠ w.heap.size := by omega
  have hne' : sb ≠ lb := fun h => hne h.symm
  refine callsD_of_wpS Tryz.func39 rfl fun c₀ cs hu => ?_
  apply wpS_seq
  apply wpS_region
  simp [wpOpsS, go_sem, recoverD, hu, Tryz.ntmps39, Exit.thenS]
  apply wpS_seq
  apply wpS_region
  simp [wpOpsS, go_sem, Exit.thenS]
  refine wpS_cond (t := true) (by simp [Act.eval]) ?_
  simp only [if_true]
  generalize hX : Value.iface 65 (Value.agg #[Value.int IntKind.i64 e, Value.int IntKind.i64 a]) = X
  change Code.wpS _ _ _ { tmps := #[.pointer (some ⟨lb, 0, none⟩), .pointer (some ⟨sb, 0, none⟩), X, undef, undef, X, X, .bool true, undef, undef, undef, undef, undef, undef, undef, undef, undef], defers := [] } _ _
  subst hX
  refine wpS_of_wp ?_
  have hta := fun xT W => assert_fault (.agg #[.int .i64 e, .int .i64 a]) xT W
  go_wp2_with fail
  have hBA := (Below.refl w.heap.size w).alloc (Nat.le_refl _) (.cells #[.int .i64 e, .int .i64 a] 65)
  have hT := Blk.new w #[.int .i64 e, .int .i64 a] 65
  have hl' := cell_kept hl hBA
  have hs0' := cell_kept hs0 hBA
  have hs1' := cell_kept hs1 hBA
  have fl' : (w.alloc (.cells #[.int .i64 e, .int .i64 a] 65)).frozen? ⟨lb, 0, none⟩ = false := by rw [← fl]; simp only [World.frozen?, hBA.block lb hll]
  have f0' : (w.alloc (.cells #[.int .i64 e, .int .i64 a] 65)).frozen? ⟨sb, 0, none⟩ = false := by rw [← f0]; simp only [World.frozen?, hBA.block sb hsl]
  have f1' : (w.alloc (.cells #[.int .i64 e, .int .i64 a] 65)).frozen? ⟨sb, 1, none⟩ = false := by rw [← f1]; simp only [World.frozen?, hBA.block sb hsl]
  clear hl hs0 hs1 fl f0 f1
  generalize w.alloc (.cells #[.int .i64 e, .int .i64 a] 65) = W at *
  have hB0 := hT.on (Below.refl _ _).drew
  have hSD : ∀ o, W.drew.cell? ⟨w.heap.size, o, none⟩ = #[Value.int .i64 e, Value.int .i64 a][o]? := hB0.cell
  have hB1 := hB0.other lb 0 (.slice none 0 0) (fun h => hn1 h.symm)
  have hS1 := hB1.cell
  have hS2 := ((hB1.other sb 0 (.int .i64 e) (fun h => hn2 h.symm)).other sb 1 (.int .i64 a) (fun h => hn2 h.symm)).cell
  have hC := Lib.hid (caught_of (lv := .slice none 0 0) (e := e) (a := a) hBA hl' hs0' hs1' hne)
  refine wp_region_held_drew (S := fun w' => ∀ o, w'.cell? ⟨w.heap.size, o, none⟩ = #[Value.int .i64 e, Value.int .i64 a][o]?) (by kernel_rfl) (hSD) (fun hHeld => ?_)
  refine wpAnyH_take (i := 0) (v := ?_) rfl (by kernel_rfl) (by kernel_rfl) (by kernel_rfl) (fun _ _ _ h => h) (Or.inl ⟨by rfl, ?_⟩) hHeld ?_
  rotate_left
  · intro w hSw; (try dsimp only at hSw); first | (go_simp; done) | (go_simp; with_reducible rfl)
  try simp only [Act.put, List.setIfInBounds_toArray, List.set_cons_zero, List.set_cons_succ, List.getElem_toArray, List.getElem_cons_zero]
  refine wpAnyH_ready (rs := [1]) (by kernel_rfl) (by simp) ?_
  refine AllReadyH.cons rfl (fun K hK => ?_) AllReadyH.nil
  go_simp
  refine hK.out _ _ (hS1) (fun hHeld => ?_)
  clear hK K
  refine wpAnyH_ready (rs := [2]) (by kernel_rfl) (by simp) ?_
  refine AllReadyH.cons rfl (fun K hK => ?_) AllReadyH.nil
  go_simp
  refine hK.out _ _ (hS2) (fun hHeld => ?_)
  clear hK K
  refine wpAnyH_done (by kernel_rfl) ?_ _
  show bodyPostS _ _ _ _ _ _ _ _ _
  simp [bodyPostS, results, Tryz.results39, go_sem]
  exact hC.out

set_option maxRecDepth 100000 in
theorem idle_unescape (p q : Value) (w : World) :
    CallsD Tryz.prog 51 #[p, q] .returning w fun e u' w' => e = .returned (.tuple #[]) ∧ u' = .returning ∧ w' = w := by
  refine callsD_of_wpS Tryz.func51 rfl fun c₀ cs hu => ?_
  apply wpS_seq
  apply wpS_region
  simp [wpOpsS, go_sem, recoverD, hu, Tryz.ntmps51, Exit.thenS]
  apply wpS_seq
  apply wpS_region
  simp [wpOpsS, go_sem, Exit.thenS]
  refine wpS_cond (t := false) (by simp [Act.eval]) ?_
  simp only [Bool.false_eq_true, if_false]
  refine wpS_of_wp (wp_skip ?_)
  cases c₀
  simp_all [bodyPostS, results, Tryz.results51]

set_option maxRecDepth 100000 in
set_option maxHeartbeats 1000000 in
theorem catch_unescape (lb sb : Nat) (x y z : Value) (e a : Int) (older : List PanicEntry) (w : World) (hl : w.cell? ⟨lb, 0, none⟩ = some x) (hs0 : w.cell? ⟨sb, 0, none⟩ = some y) (hs1 : w.cell? ⟨sb, 1, none⟩ = some z)
    (fl : w.frozen? ⟨lb, 0, none⟩ = false) (f0 : w.frozen? ⟨sb, 0, none⟩ = false) (f1 : w.frozen? ⟨sb, 1, none⟩ = false) (hne : lb ≠ sb) :
    CallsD Tryz.prog 51 #[.pointer (some ⟨lb, 0, none⟩), .pointer (some ⟨sb, 0, none⟩)] (.panicking ({ v := .iface 65 (.agg #[.int .i64 e, .int .i64 a]), recovered := false } :: older)) w fun en u' w' =>
      en = .returned (.tuple #[]) ∧ u' = .panicking ({ v := .iface 65 (.agg #[.int .i64 e, .int .i64 a]), recovered := true } :: older) ∧ Caught lb sb (.string ⟨#[]⟩) e a w w' := by
  have hll := World.block_lt_of_cell? w _ hl
  have hsl := World.block_lt_of_cell? w _ hs0
  simp only at hll hsl
  have hn1 : lb ≠ w.heap.size := by omega
  have hn2 : sb ≠ w.heap.size := by omega
  have hne' : sb ≠ lb := fun h => hne h.symm
  refine callsD_of_wpS Tryz.func51 rfl fun c₀ cs hu => ?_
  apply wpS_seq
  apply wpS_region
  simp [wpOpsS, go_sem, recoverD, hu, Tryz.ntmps51, Exit.thenS]
  apply wpS_seq
  apply wpS_region
  simp [wpOpsS, go_sem, Exit.thenS]
  refine wpS_cond (t := true) (by simp [Act.eval]) ?_
  simp only [if_true]
  generalize hX : Value.iface 65 (Value.agg #[Value.int IntKind.i64 e, Value.int IntKind.i64 a]) = X
  change Code.wpS _ _ _ { tmps := #[.pointer (some ⟨lb, 0, none⟩), .pointer (some ⟨sb, 0, none⟩), X, undef, undef, X, X, .bool true, undef, undef, undef, undef, undef, undef, undef, undef, undef], defers := [] } _ _
  subst hX
  refine wpS_of_wp ?_
  have hta := fun xT W => assert_fault (.agg #[.int .i64 e, .int .i64 a]) xT W
  go_wp2_with fail
  have hBA := (Below.refl w.heap.size w).alloc (Nat.le_refl _) (.cells #[.int .i64 e, .int .i64 a] 65)
  have hT := Blk.new w #[.int .i64 e, .int .i64 a] 65
  have hl' := cell_kept hl hBA
  have hs0' := cell_kept hs0 hBA
  have hs1' := cell_kept hs1 hBA
  have fl' : (w.alloc (.cells #[.int .i64 e, .int .i64 a] 65)).frozen? ⟨lb, 0, none⟩ = false := by rw [← fl]; simp only [World.frozen?, hBA.block lb hll]
  have f0' : (w.alloc (.cells #[.int .i64 e, .int .i64 a] 65)).frozen? ⟨sb, 0, none⟩ = false := by rw [← f0]; simp only [World.frozen?, hBA.block sb hsl]
  have f1' : (w.alloc (.cells #[.int .i64 e, .int .i64 a] 65)).frozen? ⟨sb, 1, none⟩ = false := by rw [← f1]; simp only [World.frozen?, hBA.block sb hsl]
  clear hl hs0 hs1 fl f0 f1
  generalize w.alloc (.cells #[.int .i64 e, .int .i64 a] 65) = W at *
  have hB0 := hT.on (Below.refl _ _).drew
  have hSD : ∀ o, W.drew.cell? ⟨w.heap.size, o, none⟩ = #[Value.int .i64 e, Value.int .i64 a][o]? := hB0.cell
  have hB1 := hB0.other lb 0 (.string ⟨#[]⟩) (fun h => hn1 h.symm)
  have hS1 := hB1.cell
  have hS2 := ((hB1.other sb 0 (.int .i64 e) (fun h => hn2 h.symm)).other sb 1 (.int .i64 a) (fun h => hn2 h.symm)).cell
  have hC := Lib.hid (caught_of (lv := .string ⟨#[]⟩) (e := e) (a := a) hBA hl' hs0' hs1' hne)
  refine wp_region_held_drew (S := fun w' => ∀ o, w'.cell? ⟨w.heap.size, o, none⟩ = #[Value.int .i64 e, Value.int .i64 a][o]?) (by kernel_rfl) (hSD) (fun hHeld => ?_)
  refine wpAnyH_take (i := 0) (v := ?_) rfl (by kernel_rfl) (by kernel_rfl) (by kernel_rfl) (fun _ _ _ h => h) (Or.inl ⟨by rfl, ?_⟩) hHeld ?_
  rotate_left
  · intro w hSw; (try dsimp only at hSw); first | (go_simp; done) | (go_simp; with_reducible rfl)
  try simp only [Act.put, List.setIfInBounds_toArray, List.set_cons_zero, List.set_cons_succ, List.getElem_toArray, List.getElem_cons_zero]
  refine wpAnyH_ready (rs := [1]) (by kernel_rfl) (by simp) ?_
  refine AllReadyH.cons rfl (fun K hK => ?_) AllReadyH.nil
  go_simp
  refine hK.out _ _ (hS1) (fun hHeld => ?_)
  clear hK K
  refine wpAnyH_ready (rs := [2]) (by kernel_rfl) (by simp) ?_
  refine AllReadyH.cons rfl (fun K hK => ?_) AllReadyH.nil
  go_simp
  refine hK.out _ _ (hS2) (fun hHeld => ?_)
  clear hK K
  refine wpAnyH_done (by kernel_rfl) ?_ _
  show bodyPostS _ _ _ _ _ _ _ _ _
  simp [bodyPostS, results, Tryz.results51, go_sem]
  exact hC.out
end Go.Proofs.YtnmpbphnfiiafaaGreatDoor
