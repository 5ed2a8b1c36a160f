/-
  Rules for numbers: the closure that a relation is.
-/
import Derived.Test.YtgbemhehbhlgpaaGreatDoorPlA
namespace Go.Proofs.YtgbemhehbhlgpaaGreatDoor
open Go.RowKit Go.PlainAid

/-- Objects that nothing turns any more: no bytes, no rows of tests, no rows of such rows. -/
def NT (o : Obj) : Prop := ∀ c fz, o ≠ .cells c 5 fz ∧ o ≠ .cells c 74 fz ∧ o ≠ .cells c 104 fz
/-- Such objects stand as they stood, from a place on. -/
def Fr (lo : Nat) (w w' : World) : Prop := ∀ k o, lo ≤ k → w.heap[k]? = some o → NT o → w'.heap[k]? = some o
theorem Fr.refl (lo : Nat) (w : World) : Fr lo w w := fun _ _ _ h _ => h
theorem Fr.trans {lo : Nat} {a b c : World} (h : Fr lo a b) (k : Fr lo b c) : Fr lo a c := fun i o hi ho hn => k i o hi (h i o hi ho hn) hn
theorem Fr.of {lo : Nat} {w w' : World} (h : Below w.heap.size w w') : Fr lo w w' := fun k o _ ho _ => by
  rw [h.block k (by rcases Nat.lt_or_ge k w.heap.size with g | g; exact g; simp [Array.getElem?_eq_none g] at ho)]
  exact ho
theorem Fr.only {lo b : Nat} {w w' : World} (h : Only b w w') (hb : b < lo) : Fr lo w w' := fun k o hk ho _ => by
  rw [h.block k (by rcases Nat.lt_or_ge k w.heap.size with g | g; exact g; simp [Array.getElem?_eq_none g] at ho) (by omega)]
  exact ho
theorem Fr.kept {lo b : Nat} {w w' : World} (h : OKp b w w') (hb : b < lo) : Fr lo w w' := fun k o hk ho hn => h k o ho (fun e => by injection e with e; omega) (fun c fz => (hn c fz).1)
theorem Fr.set {lo : Nat} {w : World} (p : Addr) (u : Value) (h : p.block < lo) : Fr lo w (w.setCell p u) := fun k o hk ho _ => by
  rw [Below.heap_setCell _ _ _ _ (by omega)]
  exact ho
theorem Fr.alloc {lo : Nat} {w : World} (o : Obj) : Fr lo w (w.alloc o) := .of ((Below.refl _ _).alloc (Nat.le_refl _) o)

/-- A function value that tells whether something holds of a decimal's operands. -/
def Asks (lo : Nat) (w : World) (f : Value) (h : ByteArray → Nat → Bool) : Prop :=
  ∃ (g : Nat) (lb : Array Value), f = .func (.func g) #[] lb ∧ (∀ args w, (callFunc g args).run Tryz.prog w = .ok (.enter g args) w) ∧
    ∀ (W : World) (neg : Bool) (ds : ByteArray) (k : Nat), Fr lo w W → PG W → rightB neg ds k = true → Calls Tryz.prog g (#[opsA ds k] ++ lb) W fun e w' => e = .returned (.bool (h ds k)) ∧ Below W.heap.size W w'
theorem Asks.on {lo : Nat} {w w' : World} {f : Value} {h : ByteArray → Nat → Bool} (H : Asks lo w f h) (hF : Fr lo w w') : Asks lo w' f h := by
  obtain ⟨g, lb, h1, h2, h3⟩ := H
  exact ⟨g, lb, h1, h2, fun W neg ds k hW => h3 W neg ds k (hF.trans hW)⟩

theorem opsA_eq {neg : Bool} {ds : ByteArray} {k : Nat} (hr : rightB neg ds k = true) : opsA ds k = .agg #[.bool false, .string ds, .int .i64 k, .bool false, .string (digs (dval ds / 10 ^ k)), .int .i64 0, .bool false, .string (digs (dval ds % 10 ^ k)), .int .i64 0, .bool false, .string (digs (opT' ds k)), .int .i64 0, .int .i64 k, .int .i64 (opW ds k)] := by
  have e1 : opI ds k = (false, digs (dval ds / 10 ^ k), 0, 0) := by
    have h := opD_ns hr 105
    exact madeR_ns (s := 0) h.1 (by decide)
  have e2 : opF ds k = (false, digs (dval ds % 10 ^ k), 0, 0) := by
    have h := opD_ns hr 102
    exact madeR_ns (s := 0) h.1 (by decide)
  have e3 : opT ds k = (false, digs (opT' ds k), 0, 0) := by
    have h := opD_ns hr 116
    exact madeR_ns (s := 0) h.1 (by decide)
  unfold opsA opsV
  rw [e1, e2, e3]
def isOp (o : Int) : Prop := o = 110 ∨ o = 105 ∨ o = 102 ∨ o = 116 ∨ o = 118 ∨ o = 119
theorem opOf_is {t : ByteArray} {o : Int} (h : opOf t = some o) : isOp o := by
  unfold opOf at h
  split at h
  · rename_i g
    have e := Option.some.inj h
    rw [← e]
    exact g.2
  · cases h

set_option maxRecDepth 100000 in
set_option maxHeartbeats 4000000 in
theorem op_any {neg : Bool} {ds : ByteArray} {k : Nat} (hr : rightB neg ds k = true) (o : Int) (ho : isOp o) (W : World) (hP : PG W) :
    Calls Tryz.prog (opFn o) #[opsA ds k] W fun e w' => e = .returned (.agg #[.bool false, .string (digs (opD o ds k).1), .int .i64 (opD o ds k).2]) ∧ Below W.heap.size W w' := by
  have hk : k ≤ 400 := by have := of_decide_eq_true hr; omega
  have hw : opW ds k ≤ 400 := by unfold opW; omega
  rw [opsA_eq hr]
  have hfk := of_nat k (by omega)
  have hfw := of_nat (opW ds k) (by omega)
  have hg := right_digs hr
  rcases ho with rfl | rfl | rfl | rfl | rfl | rfl
  · show Calls Tryz.prog 90 _ W fun e w' => e = .returned (.agg #[.bool false, .string (digs (dval ds)), .int .i64 (k : Int)]) ∧ _
    rw [hg]
    generalize digs (dval ds / 10 ^ k) = D1
    generalize digs (dval ds % 10 ^ k) = D2
    generalize digs (opT' ds k) = D3
    clear hfk hfw hr hg
    go_enter Tryz.func90, Tryz.ntmps90
    go_wp2_with fail
    refine bodyPost_ret ?_ rfl ⟨rfl, ?_⟩
    · simp [results, Tryz.results90, go_sem]
    · exact ((Below.refl _ _).alloc (Nat.le_refl _) _).alloc (by simp) _
  · show Calls Tryz.prog 91 _ W fun e w' => e = .returned (.agg #[.bool false, .string (digs (dval ds / 10 ^ k)), .int .i64 0]) ∧ _
    generalize digs (dval ds / 10 ^ k) = D1
    generalize digs (dval ds % 10 ^ k) = D2
    generalize digs (opT' ds k) = D3
    clear hfk hfw hr hg
    go_enter Tryz.func91, Tryz.ntmps91
    go_wp2_with fail
    refine bodyPost_ret ?_ rfl ⟨rfl, ?_⟩
    · simp [results, Tryz.results91, go_sem]
    · exact ((Below.refl _ _).alloc (Nat.le_refl _) _).alloc (by simp) _
  · show Calls Tryz.prog 92 _ W fun e w' => e = .returned (.agg #[.bool false, .string (digs (dval ds % 10 ^ k)), .int .i64 0]) ∧ _
    generalize digs (dval ds / 10 ^ k) = D1
    generalize digs (dval ds % 10 ^ k) = D2
    generalize digs (opT' ds k) = D3
    clear hfk hfw hr hg
    go_enter Tryz.func92, Tryz.ntmps92
    go_wp2_with fail
    refine bodyPost_ret ?_ rfl ⟨rfl, ?_⟩
    · simp [results, Tryz.results92, go_sem]
    · exact ((Below.refl _ _).alloc (Nat.le_refl _) _).alloc (by simp) _
  · show Calls Tryz.prog 93 _ W fun e w' => e = .returned (.agg #[.bool false, .string (digs (opT' ds k)), .int .i64 0]) ∧ _
    generalize digs (dval ds / 10 ^ k) = D1
    generalize digs (dval ds % 10 ^ k) = D2
    generalize digs (opT' ds k) = D3
    clear hfk hfw hr hg
    go_enter Tryz.func93, Tryz.ntmps93
    go_wp2_with fail
    refine bodyPost_ret ?_ rfl ⟨rfl, ?_⟩
    · simp [results, Tryz.results93, go_sem]
    · exact ((Below.refl _ _).alloc (Nat.le_refl _) _).alloc (by simp) _
  · show Calls Tryz.prog 94 _ W fun e w' => e = .returned (.agg #[.bool false, .string (digs k), .int .i64 0]) ∧ _
    generalize digs (dval ds / 10 ^ k) = D1
    generalize digs (dval ds % 10 ^ k) = D2
    generalize digs (opT' ds k) = D3
    generalize digs k = D at *
    have hA := ((Below.refl W.heap.size W).alloc (Nat.le_refl _) (.cells #[.bool false, .string ds, .int .i64 k, .bool false, .string D1, .int .i64 0, .bool false, .string D2, .int .i64 0, .bool false, .string D3, .int .i64 0, .int .i64 k, .int .i64 (opW ds k)] 70)).alloc (by simp) (.cells #[.bool false, .string ⟨#[]⟩, .int .i64 0] 23)
    have hR := Blk.new (W.alloc (.cells #[.bool false, .string ds, .int .i64 k, .bool false, .string D1, .int .i64 0, .bool false, .string D2, .int .i64 0, .bool false, .string D3, .int .i64 0, .int .i64 k, .int .i64 (opW ds k)] 70)) #[.bool false, .string ⟨#[]⟩, .int .i64 0] 23
    have hc := hfk _ (hP.on hA)
    clear hfk hfw hr hg
    generalize opW ds k = wv at *
    go_enter Tryz.func94, Tryz.ntmps94
    go_wp2_with fail
    refine hc.mono ?_
    rintro e w1 ⟨rfl, hB⟩
    have hR1 := hR.on hB
    have c0 := hR1.cell 0; have c1 := hR1.cell 1; have c2 := hR1.cell 2
    have f0 := hR1.free 0; have f1 := hR1.free 1; have f2 := hR1.free 2
    simp at c0 c1 c2 f0 f1 f2
    go_wp2_with fail
    have hW := hA.trans (hB.mono hA.size)
    refine bodyPost_ret ?_ rfl ⟨rfl, ?_⟩
    · simp [results, Tryz.results94, go_sem, c0, c1, c2]
    · exact Below.setCell (Below.setCell (Below.setCell hW (p := ⟨W.heap.size + 1, 0, none⟩) (Nat.le_succ _) _) (p := ⟨W.heap.size + 1, 1, none⟩) (Nat.le_succ _) _) (p := ⟨W.heap.size + 1, 2, none⟩) (Nat.le_succ _) _
  · show Calls Tryz.prog 95 _ W fun e w' => e = .returned (.agg #[.bool false, .string (digs (opW ds k)), .int .i64 0]) ∧ _
    generalize digs (dval ds / 10 ^ k) = D1
    generalize digs (dval ds % 10 ^ k) = D2
    generalize digs (opT' ds k) = D3
    generalize digs (opW ds k) = D at *
    have hA := ((Below.refl W.heap.size W).alloc (Nat.le_refl _) (.cells #[.bool false, .string ds, .int .i64 k, .bool false, .string D1, .int .i64 0, .bool false, .string D2, .int .i64 0, .bool false, .string D3, .int .i64 0, .int .i64 k, .int .i64 (opW ds k)] 70)).alloc (by simp) (.cells #[.bool false, .string ⟨#[]⟩, .int .i64 0] 23)
    have hR := Blk.new (W.alloc (.cells #[.bool false, .string ds, .int .i64 k, .bool false, .string D1, .int .i64 0, .bool false, .string D2, .int .i64 0, .bool false, .string D3, .int .i64 0, .int .i64 k, .int .i64 (opW ds k)] 70)) #[.bool false, .string ⟨#[]⟩, .int .i64 0] 23
    have hc := hfw _ (hP.on hA)
    clear hfk hfw hr hg
    generalize opW ds k = wv at *
    go_enter Tryz.func95, Tryz.ntmps95
    go_wp2_with fail
    refine hc.mono ?_
    rintro e w1 ⟨rfl, hB⟩
    have hR1 := hR.on hB
    have c0 := hR1.cell 0; have c1 := hR1.cell 1; have c2 := hR1.cell 2
    have f0 := hR1.free 0; have f1 := hR1.free 1; have f2 := hR1.free 2
    simp at c0 c1 c2 f0 f1 f2
    go_wp2_with fail
    have hW := hA.trans (hB.mono hA.size)
    refine bodyPost_ret ?_ rfl ⟨rfl, ?_⟩
    · simp [results, Tryz.results95, go_sem, c0, c1, c2]
    · exact Below.setCell (Below.setCell (Below.setCell hW (p := ⟨W.heap.size + 1, 0, none⟩) (Nat.le_succ _) _) (p := ⟨W.heap.size + 1, 1, none⟩) (Nat.le_succ _) _) (p := ⟨W.heap.size + 1, 2, none⟩) (Nat.le_succ _) _
end Go.Proofs.YtgbemhehbhlgpaaGreatDoor
