/-
  The deferred closures that turn the walk's end into an answer.
  Tokens, whole.
-/
import Derived.Test.YtdipbfchlopeaaaGreatDoorXnG
import Derived.Defers
import Derived.Recover
import Derived.Laws.Pointers
namespace Go.Proofs.YtdipbfchlopeaaaGreatDoor
section
open Go.RowKit Go.PlainAid

theorem assert_fault (v : Value) (xT : TypeId) (w : World) : (Instr.typeAssert (.iface 93 v) xT 93 true).run Tryz.prog w = .ok (.tuple #[v, .bool true]) w := by
  simp [Instr.typeAssert, run_underlying Tryz.underlying93]
/-- The closure's work: nothing handed back, the fault as the spot. -/
structure Caught (lb sb : Nat) (lv : Value) (e a : Int) (w w' : World) : Prop where
  l : w'.cell? ⟨lb, 0, none⟩ = some lv
  s0 : w'.cell? ⟨sb, 0, none⟩ = some (.int .i64 e)
  s1 : w'.cell? ⟨sb, 1, none⟩ = some (.int .i64 a)
  os : w'.os = w.os
  tape : w'.tape = w.tape
  output : w'.output = w.output
  size : w.heap.size ≤ w'.heap.size
  block : ∀ k, k < w.heap.size → k ≠ lb → k ≠ sb → w'.heap[k]? = w.heap[k]?
theorem caught_of {lb sb : Nat} {lv x y z : Value} {e a : Int} {w W : World} (hB : Below w.heap.size w W) (hl : W.cell? ⟨lb, 0, none⟩ = some x) (hs0 : W.cell? ⟨sb, 0, none⟩ = some y) (hs1 : W.cell? ⟨sb, 1, none⟩ = some z) (hne : lb ≠ sb) :
    Caught lb sb lv e a w (((W.drew.setCell ⟨lb, 0, none⟩ lv).setCell ⟨sb, 0, none⟩ (.int .i64 e)).setCell ⟨sb, 1, none⟩ (.int .i64 a)) := by
  have hd : ∀ k j, W.drew.cell? ⟨k, j, none⟩ = W.cell? ⟨k, j, none⟩ := fun k j => rfl
  have e1 : (W.drew.setCell ⟨lb, 0, none⟩ lv).cell? ⟨lb, 0, none⟩ = some lv := World.cell?_setCell_same' _ _ _ (by rw [hd, hl]; rfl)
  have e2 : (W.drew.setCell ⟨lb, 0, none⟩ lv).cell? ⟨sb, 0, none⟩ = some y := by rw [World.cell?_setCell_other _ _ _ _ (by simp), hd, hs0]
  have e3 : (W.drew.setCell ⟨lb, 0, none⟩ lv).cell? ⟨sb, 1, none⟩ = some z := by rw [World.cell?_setCell_other _ _ _ _ (by simp), hd, hs1]
  refine ⟨?_, ?_, ?_, hB.os, hB.tape, hB.output, by simpa [World.setCell] using hB.size, fun k hk h1 h2 => ?_⟩
  · rw [World.cell?_setCell_other _ _ _ _ (by simp), World.cell?_setCell_other _ _ _ _ (by simp), e1]
  · rw [World.cell?_setCell_other _ _ _ _ (by simp)]
    exact World.cell?_setCell_same' _ _ _ (by rw [e2]; rfl)
  · refine World.cell?_setCell_same' _ _ _ ?_
    rw [World.cell?_setCell_other _ _ _ _ (by simp), e3]
    rfl
  · rw [Below.heap_setCell _ _ _ _ (by simpa using h2), Below.heap_setCell _ _ _ _ (by simpa using h2), Below.heap_setCell _ _ _ _ (by simpa using h1)]
    exact hB.block k hk

set_option maxRecDepth 100000 in
theorem idle_tokens (p q : Value) (w : World) :
    CallsD Tryz.prog 42 #[p, q] .returning w fun e u' w' => e = .returned (.tuple #[]) ∧ u' = .returning ∧ w' = w := by
  refine callsD_of_wpS Tryz.func42 rfl fun c₀ cs hu => ?_
  apply wpS_seq
  apply wpS_region
  simp [wpOpsS, go_sem, recoverD, hu, Tryz.ntmps42, Exit.thenS]
  apply wpS_seq
  apply wpS_region
  simp [wpOpsS, go_sem, Exit.thenS]
  refine wpS_cond (t := false) (by simp [Act.eval]) ?_
  simp only [Bool.false_eq_true, if_false]
  refine wpS_of_wp (wp_skip ?_)
  cases c₀
  simp_all [bodyPostS, results, Tryz.results42]

set_option maxRecDepth 100000 in
set_option maxHeartbeats 1000000 in
theorem catch_tokens (lb sb : Nat) (x y z : Value) (e a : Int) (older : List PanicEntry) (w : World) (hl : w.cell? ⟨lb, 0, none⟩ = some x) (hs0 : w.cell? ⟨sb, 0, none⟩ = some y) (hs1 : w.cell? ⟨sb, 1, none⟩ = some z)
    (fl : w.frozen? ⟨lb, 0, none⟩ = false) (f0 : w.frozen? ⟨sb, 0, none⟩ = false) (f1 : w.frozen? ⟨sb, 1, none⟩ = false) (hne : lb ≠ sb) :
    CallsD Tryz.prog 42 #[.pointer (some ⟨lb, 0, none⟩), .pointer (some ⟨sb, 0, none⟩)] (.panicking ({ v := .iface 93 (.agg #[.int .i64 e, .int .i64 a]), recovered := false } :: older)) w fun en u' w' =>
      en = .returned (.tuple #[]) ∧ u' = .panicking ({ v := .iface 93 (.agg #[.int .i64 e, .int .i64 a]), recovered := true } :: older) ∧ Caught lb sb (.slice none 0 0) e a w w' := by
  have hll := World.block_lt_of_cell? w _ hl
  have hsl := World.block_lt_of_cell? w _ hs0
  simp only at hll hsl
  have hn1 : lb ≠ w.heap.size := by omega
  have hn2 : sb ≠ w.heap.size := by omega
  have hne' : sb ≠ lb := fun h => hne h.symm
  refine callsD_of_wpS Tryz.func42 rfl fun c₀ cs hu => ?_
  apply wpS_seq
  apply wpS_region
  simp [wpOpsS, go_sem, recoverD, hu, Tryz.ntmps42, Exit.thenS]
  apply wpS_seq
  apply wpS_region
  simp [wpOpsS, go_sem, Exit.thenS]
  refine wpS_cond (t := true) (by simp [Act.eval]) ?_
  simp only [if_true]
  generalize hX : Value.iface 93 (Value.agg #[Value.int IntKind.i64 e, Value.int IntKind.i64 a]) = X
  change Code.wpS _ _ _ { tmps := #[.pointer (some ⟨lb, 0, none⟩), .pointer (some ⟨sb, 0, none⟩), X, undef, undef, X, X, .bool true, undef, undef, undef, undef, undef, undef, undef, undef, undef], defers := [] } _ _
  subst hX
  refine wpS_of_wp ?_
  have hta := fun xT W => assert_fault (.agg #[.int .i64 e, .int .i64 a]) xT W
  go_wp2_with fail
  have hBA := (Below.refl w.heap.size w).alloc (Nat.le_refl _) (.cells #[.int .i64 e, .int .i64 a] 93)
  have hT := Blk.new w #[.int .i64 e, .int .i64 a] 93
  have hl' := cell_kept hl hBA
  have hs0' := cell_kept hs0 hBA
  have hs1' := cell_kept hs1 hBA
  have fl' : (w.alloc (.cells #[.int .i64 e, .int .i64 a] 93)).frozen? ⟨lb, 0, none⟩ = false := by rw [← fl]; simp only [World.frozen?, hBA.block lb hll]
  have f0' : (w.alloc (.cells #[.int .i64 e, .int .i64 a] 93)).frozen? ⟨sb, 0, none⟩ = false := by rw [← f0]; simp only [World.frozen?, hBA.block sb hsl]
  have f1' : (w.alloc (.cells #[.int .i64 e, .int .i64 a] 93)).frozen? ⟨sb, 1, none⟩ = false := by rw [← f1]; simp only [World.frozen?, hBA.block sb hsl]
  clear hl hs0 hs1 fl f0 f1
  generalize w.alloc (.cells #[.int .i64 e, .int .i64 a] 93) = W at *
  have hB0 := hT.on (Below.refl _ _).drew
  have hSD : ∀ o, W.drew.cell? ⟨w.heap.size, o, none⟩ = #[Value.int .i64 e, Value.int .i64 a][o]? := hB0.cell
  have hB1 := hB0.other lb 0 (.slice none 0 0) (fun h => hn1 h.symm)
  have hS1 := hB1.cell
  have hS2 := ((hB1.other sb 0 (.int .i64 e) (fun h => hn2 h.symm)).other sb 1 (.int .i64 a) (fun h => hn2 h.symm)).cell
  have hC := Lib.hid (caught_of (lv := .slice none 0 0) (e := e) (a := a) hBA hl' hs0' hs1' hne)
  refine wp_region_held_drew (S := fun w' => ∀ o, w'.cell? ⟨w.heap.size, o, none⟩ = #[Value.int .i64 e, Value.int .i64 a][o]?) (by kernel_rfl) (hSD) (fun hHeld => ?_)
  refine wpAnyH_take (i := 0) (v := ?_) rfl (by kernel_rfl) (by kernel_rfl) (by kernel_rfl) (fun _ _ _ h => h) (Or.inl ⟨by rfl, ?_⟩) hHeld ?_
  rotate_left
  · intro w hSw; (try dsimp only at hSw); first | (go_simp; done) | (go_simp; with_reducible rfl)
  try simp only [Act.put, List.setIfInBounds_toArray, List.set_cons_zero, List.set_cons_succ, List.getElem_toArray, List.getElem_cons_zero]
  refine wpAnyH_ready (rs := [1]) (by kernel_rfl) (by simp) ?_
  refine AllReadyH.cons rfl (fun K hK => ?_) AllReadyH.nil
  go_simp
  refine hK.out _ _ (hS1) (fun hHeld => ?_)
  clear hK K
  refine wpAnyH_ready (rs := [2]) (by kernel_rfl) (by simp) ?_
  refine AllReadyH.cons rfl (fun K hK => ?_) AllReadyH.nil
  go_simp
  refine hK.out _ _ (hS2) (fun hHeld => ?_)
  clear hK K
  refine wpAnyH_done (by kernel_rfl) ?_ _
  show bodyPostS _ _ _ _ _ _ _ _ _
  simp [bodyPostS, results, Tryz.results42, go_sem]
  exact hC.out
end

section
open Go.RowKit Go.PlainAid

/-- What Tokens comes to. -/
def TokEnd (s : ByteArray) (w : World) (en : Ending) (w' : World) : Prop :=
  match tokensX s with
  | .bad e a => en = .returned (.tuple #[.slice none 0 0, .agg #[.int .i64 e, .int .i64 (a : Int)]]) ∧ Below w.heap.size w w'
  | .ok _ out => ∃ v, en = .returned (.tuple #[v, .agg #[.int .i64 0, .int .i64 0]]) ∧ OutAt w.heap.size w' v out ∧ Below w.heap.size w w'
theorem OutAt.mono {lo lo' : Nat} {w : World} {v : Value} {out : List Tk} (h : OutAt lo w v out) (hl : lo' ≤ lo) : OutAt lo' w v out := by
  obtain ⟨ms, h1, h2, h3⟩ := h
  exact ⟨ms, h1.mono hl, h2, fun j hj hj' => ⟨(h3 j hj hj').kind, (h3 j hj hj').name, (h3 j hj hj').text, (h3 j hj hj').at_, (h3 j hj hj').attrs.mono hl⟩⟩
theorem tok_results (t : Array Value) {lb sb : Nat} {lv y z : Value} (h2 : t.getD 2 undef = .pointer (some ⟨lb, 0, none⟩)) (h3 : t.getD 3 undef = .pointer (some ⟨sb, 0, none⟩)) {W : World} (cl : W.cell? ⟨lb, 0, none⟩ = some lv) (c0 : W.cell? ⟨sb, 0, none⟩ = some y) (c1 : W.cell? ⟨sb, 1, none⟩ = some z) :
    (results Tryz.f18 t).run Tryz.prog W = .ok (.tuple #[lv, .agg #[y, z]]) W := by
  rw [Array.getD_eq_getD_getElem?] at h2 h3
  simp [results, Tryz.results18, go_sem, h2, h3, cl, c0, c1]
theorem push_new (w : World) (o : Obj) (n : Nat) (hn : n = w.heap.size) : (w.alloc o).heap[n]? = some o := by
  subst hn
  show (w.heap.push _)[w.heap.size]? = _
  simp
/-- The named results, as they are made. -/
def Nm (lb sb : Nat) (W : World) : Prop := W.heap[lb]? = some (.cells #[.slice none 0 0] 22 (0, 0)) ∧ W.heap[sb]? = some (.cells #[.int .i64 0, .int .i64 0] 34 (0, 0))
theorem tok_dead {s : ByteArray} {w W : World} {t : Array Value} {lb sb : Nat} {e : Int} {a : Nat} (h2 : t.getD 2 undef = .pointer (some ⟨lb, 0, none⟩)) (h3 : t.getD 3 undef = .pointer (some ⟨sb, 0, none⟩)) (hN : Nm lb sb W) (hne : lb ≠ sb) (hlb : w.heap.size ≤ lb) (hsb : w.heap.size ≤ sb) (hB : Below w.heap.size w W) (hX : tokensX s = .bad e a) :
    Leaves Tryz.prog Tryz.f18 t (fun en w' => TokEnd s w en w') [{ target := .fn (.func 42) #[.pointer (some ⟨lb, 0, none⟩), .pointer (some ⟨sb, 0, none⟩)], args := #[] }] (.panicking [{ v := .iface 93 (.agg #[.int .i64 e, .int .i64 (a : Int)]), recovered := false }]) W := by
  refine leaves_cons (f := 42) (args := #[.pointer (some ⟨lb, 0, none⟩), .pointer (some ⟨sb, 0, none⟩)]) (by simp) (by simp [go_sem]) ?_
  refine (catch_tokens lb sb _ _ _ e (a : Int) [] W (cellH hN.1 0) (cellH hN.2 0) (cellH hN.2 1) (freeH hN.1 0) (freeH hN.2 0) (freeH hN.2 1) hne).mono ?_
  rintro en u' w' ⟨rfl, rfl, hC⟩
  show Leaves _ _ _ _ [] .returning w'
  refine ⟨_, tok_results t h2 h3 hC.l hC.s0 hC.s1, ?_⟩
  unfold TokEnd
  rw [hX]
  exact ⟨rfl, hB.trans ⟨hC.os, hC.tape, hC.output, hC.size, fun k hk => hC.block k (Nat.lt_of_lt_of_le hk hB.size) (by omega) (by omega)⟩⟩
theorem tok_good {R : Ending → World → Prop} {W : World} {t : Array Value} {lb sb : Nat} {lv y z : Value} (h2 : t.getD 2 undef = .pointer (some ⟨lb, 0, none⟩)) (h3 : t.getD 3 undef = .pointer (some ⟨sb, 0, none⟩)) (cl : W.cell? ⟨lb, 0, none⟩ = some lv) (c0 : W.cell? ⟨sb, 0, none⟩ = some y) (c1 : W.cell? ⟨sb, 1, none⟩ = some z) (hR : R (.returned (.tuple #[lv, .agg #[y, z]])) W) :
    Leaves Tryz.prog Tryz.f18 t R [{ target := .fn (.func 42) #[.pointer (some ⟨lb, 0, none⟩), .pointer (some ⟨sb, 0, none⟩)], args := #[] }] .returning W := by
  refine leaves_cons (f := 42) (args := #[.pointer (some ⟨lb, 0, none⟩), .pointer (some ⟨sb, 0, none⟩)]) (by simp) (by simp [go_sem]) ?_
  refine (idle_tokens _ _ W).mono ?_
  rintro en u' w' ⟨rfl, rfl, rfl⟩
  exact ⟨_, tok_results t h2 h3 cl c0 c1, hR⟩

set_option maxRecDepth 100000 in
set_option maxHeartbeats 4000000 in
theorem tokens_long (s : ByteArray) (w : World) (h : 262144 < s.size) :
    Calls Tryz.prog 18 #[.string s] w fun en w' => TokEnd s w en w' := by
  have hI : (262144 : Int) < s.size := by omega
  have hx : tokensX s = .bad 3 262144 := by unfold tokensX; rw [if_pos h]
  have HX := Lib.hid hx
  have hB := ((Below.refl w.heap.size w).alloc (Nat.le_refl _) (.cells #[.slice none 0 0] 22)).alloc (Nat.le_trans (Nat.le_refl _) (by simp)) (.cells #[.int .i64 3, .int .i64 262144] 34)
  have HB := Lib.hid hB
  clear hx h hB
  go_enter_defers Tryz.func18, Tryz.ntmps18
  go_wp2_with fail
  show Leaves _ _ _ _ [] .returning _
  refine ⟨_, tok_results _ (lb := w.heap.size) (sb := w.heap.size + 1) (lv := .slice none 0 0) (y := .int .i64 3) (z := .int .i64 262144) rfl rfl (by simp [go_sem]) (by simp [go_sem]) (by simp [go_sem]), ?_⟩
  unfold TokEnd
  rw [HX.out]
  exact ⟨rfl, HB.out⟩

theorem bodyX_miscbad {s : ByteArray} {p0 a : Nat} {e : Int} (h : miscX s p0 = .bad e a) : bodyX s p0 = .bad e a := by unfold bodyX; rw [h]
theorem bodyX_nolt {s : ByteArray} {p0 p : Nat} {u : Unit} (h : miscX s p0 = .ok p u) (h2 : bt s p ≠ 60) : bodyX s p0 = .bad 140 p := by unfold bodyX; rw [h]; simp only; rw [if_neg h2]
theorem bodyX_begbad {s : ByteArray} {p0 p a : Nat} {u : Unit} {e : Int} (h : miscX s p0 = .ok p u) (h2 : bt s p = 60) (h3 : begX s p 0 = .bad e a) : bodyX s p0 = .bad e a := by unfold bodyX; rw [h]; simp only; rw [if_pos h2, h3]
theorem bodyX_go {s : ByteArray} {p0 p q : Nat} {u : Unit} {nm : ByteArray} {sh : Bool} {l : List At2} (h : miscX s p0 = .ok p u) (h2 : bt s p = 60) (h3 : begX s p 0 = .ok q (nm, sh, l)) : bodyX s p0 = match holdF s (s.size + 1 - q) q ([] ++ begT p nm sh l) (if sh = true then [] else [] ++ [nm]) ⟨#[]⟩ none with
    | .bad e a => .bad e a
    | .ok r out => match miscX s r with
      | .bad e a => .bad e a
      | .ok z _ => if z = s.size then .ok z out else .bad 140 z := by
  unfold bodyX
  rw [h]
  simp only
  rw [if_pos h2, h3]
  cases sh <;> rfl
theorem miscF_in {s : ByteArray} : ∀ {f p q : Nat} {u : Unit}, miscF s f p = .ok q u → p ≤ s.size → p ≤ q ∧ q ≤ s.size
  | 0, p, q, u, h, hp => by
    simp only [miscF] at h
    injection h with h
    omega
  | f + 1, p, q, u, h, hp => by
    have h1 := blk_ge s p
    have h2 := blk_le s p hp
    unfold miscF at h
    split at h
    · have := miscF_in h h2
      omega
    · split at h
      · rename_i hc
        cases hx : cmtX s p with
        | bad e a => rw [hx] at h; cases h
        | ok q1 u1 =>
          rw [hx] at h
          have h3 := cmtX_in hx hc hp
          have := miscF_in h h3.2
          omega
      · injection h with h
        omega
theorem miscX_in {s : ByteArray} {p q : Nat} {u : Unit} (h : miscX s p = .ok q u) (hp : p ≤ s.size) : p ≤ q ∧ q ≤ s.size := miscF_in h hp
/-- The walk behind the declaration: what it stands on. -/
structure TokAt (s : ByteArray) (w w4 : World) (lb sb rb : Nat) : Prop where
  nm : Nm lb sb w4
  ne : lb ≠ sb
  hlb : w.heap.size ≤ lb
  hsb : w.heap.size ≤ sb
  lr : lb < rb
  sr : sb < rb
  bel : Below w.heap.size w w4
theorem TokAt.nmk {s : ByteArray} {w w4 W : World} {lb sb rb : Nat} (h : TokAt s w w4 lb sb rb) (hK : KeepX (rb + 1) rb w4 W) : Nm lb sb W := by
  have h1 := h.lr
  have h2 := h.sr
  exact ⟨(hK.block lb (by omega) (by omega)).trans h.nm.1, (hK.block sb (by omega) (by omega)).trans h.nm.2⟩
theorem TokAt.belk {s : ByteArray} {w w4 W : World} {lb sb rb : Nat} (h : TokAt s w w4 lb sb rb) (hK : KeepX (rb + 1) rb w4 W) : Below w.heap.size w W :=
  h.bel.trans (hK.below (by have := h.lr; have := h.hlb; omega) (by have := h.lr; have := h.hlb; omega))
theorem TokAt.dead {s : ByteArray} {w w4 W : World} {lb sb rb : Nat} {t : Array Value} {e : Int} {a : Nat} (h : TokAt s w w4 lb sb rb) (h2 : t.getD 2 undef = .pointer (some ⟨lb, 0, none⟩)) (h3 : t.getD 3 undef = .pointer (some ⟨sb, 0, none⟩)) (hK : KeepX (rb + 1) rb w4 W) (hX : tokensX s = .bad e a) :
    Leaves Tryz.prog Tryz.f18 t (fun en w' => TokEnd s w en w') [{ target := .fn (.func 42) #[.pointer (some ⟨lb, 0, none⟩), .pointer (some ⟨sb, 0, none⟩)], args := #[] }] (.panicking [{ v := .iface 93 (.agg #[.int .i64 e, .int .i64 (a : Int)]), recovered := false }]) W :=
  tok_dead h2 h3 (h.nmk hK) h.ne h.hlb h.hsb (h.belk hK) hX

set_option maxRecDepth 100000 in
set_option maxHeartbeats 16000000 in
theorem tokens_short (s : ByteArray) (w : World) (hz : s.size ≤ 262144) (hG : Gx w) :
    Calls Tryz.prog 18 #[.string s] w fun en w' => TokEnd s w en w' := by
  have hI : ¬ (262144 : Int) < s.size := by omega
  have hzI : (s.size : Int) ≤ 262144 := by omega
  obtain ⟨w1, hw1⟩ : ∃ w1, (w.alloc (.cells #[.slice none 0 0] 22)).alloc (.cells #[.int .i64 0, .int .i64 0] 34) = w1 := ⟨_, rfl⟩
  have hB1 : Below w.heap.size w w1 := by
    rw [← hw1]
    exact ((Below.refl w.heap.size w).alloc (Nat.le_refl _) _).alloc (by simp) _
  have hN1 : Nm w.heap.size (w.heap.size + 1) w1 := by
    rw [← hw1]
    exact ⟨(Lib.alloc_old _ _ _ (by simp)).trans (push_new _ _ _ rfl), push_new _ _ _ (by simp)⟩
  have hz1 : w1.heap.size = w.heap.size + 1 + 1 := by rw [← hw1]; simp
  have hck := check_any s w1 (by omega)
  by_cases hbk : 0 ≤ brk s 0
  · have hx : tokensX s = .bad 6 (brk s 0).toNat := by unfold tokensX; rw [if_neg (by omega), if_pos hbk]
    have hsp : spotV (brk s 0) = .agg #[.int .i64 6, .int .i64 (((brk s 0).toNat : Nat) : Int)] := by unfold spotV; rw [if_pos hbk, Int.toNat_of_nonneg hbk]
    rw [hsp] at hck
    have HX := Lib.hid hx; have HB1 := Lib.hid hB1; have HN1 := Lib.hid hN1
    obtain ⟨k, hk⟩ : ∃ k, (brk s 0).toNat = k := ⟨_, rfl⟩
    rw [hk] at hck HX
    have HW1 := Lib.hid hw1; have HZ1 := Lib.hid hz1
    clear hx hsp hbk hk hB1 hN1 hw1 hz1 hG
    go_enter_defers Tryz.func18, Tryz.ntmps18
    go_wp2_with fail
    rw [HW1.out]
    refine hck.mono ?_
    rintro e w2 ⟨rfl, hB2⟩
    have hN2 : Nm w.heap.size (w.heap.size + 1) w2 := ⟨(hB2.block _ (lt_some HN1.out.1)).trans HN1.out.1, (hB2.block _ (lt_some HN1.out.2)).trans HN1.out.2⟩
    have hl2 := lt_some hN2.1
    have hs2 := lt_some hN2.2
    have hA := (Below.refl w2.heap.size w2).alloc (Nat.le_refl _) (.cells #[.int .i64 6, .int .i64 (k : Int)] 34)
    have hN3 : Nm w.heap.size (w.heap.size + 1) (w2.alloc (.cells #[.int .i64 6, .int .i64 (k : Int)] 34)) := ⟨(hA.block _ hl2).trans hN2.1, (hA.block _ hs2).trans hN2.2⟩
    have hT := Blk.new w2 #[.int .i64 6, .int .i64 (k : Int)] 34
    have hB3 : Below w.heap.size w (w2.alloc (.cells #[.int .i64 6, .int .i64 (k : Int)] 34)) := (HB1.out.trans (hB2.mono HB1.out.size)).trans (hA.mono (Nat.le_trans HB1.out.size hB2.size))
    clear hck hN2 hA hB2
    go_upto_region 5 with fail
    generalize hfb : w2.heap.size = fb at *
    generalize w2.alloc (.cells #[.int .i64 6, .int .i64 (k : Int)] 34) = W at *
    have n1 : fb ≠ w.heap.size := by omega
    have n2 : fb ≠ w.heap.size + 1 := by omega
    have n3 : w.heap.size ≠ w.heap.size + 1 := by omega
    have cl : W.cell? ⟨w.heap.size, 0, none⟩ = some (.slice none 0 0) := cellH hN3.1 0
    have cs0 : W.cell? ⟨w.heap.size + 1, 0, none⟩ = some (.int .i64 0) := cellH hN3.2 0
    have cs1 : W.cell? ⟨w.heap.size + 1, 1, none⟩ = some (.int .i64 0) := cellH hN3.2 1
    have fl := freeH hN3.1 0
    have fs0 := freeH hN3.2 0
    have fs1 := freeH hN3.2 1
    have t0 : W.cell? ⟨fb, 0, none⟩ = some (.int .i64 6) := hT.cell 0
    have t1 : W.cell? ⟨fb, 1, none⟩ = some (.int .i64 (k : Int)) := hT.cell 1
    have HC := Lib.hid (caught_of (lv := .slice none 0 0) (e := 6) (a := (k : Int)) (Below.refl W.heap.size W) cl cs0 cs1 n3)
    have HB3 := Lib.hid hB3
    clear hN3 hT hB3
    go_region
    all_goals
      go_wp2_with fail
      have hC : Caught w.heap.size (w.heap.size + 1) (.slice none 0 0) 6 (k : Int) W _ := HC.out
      show Leaves _ _ _ _ [] .returning _
      refine ⟨_, tok_results _ (lb := w.heap.size) (sb := w.heap.size + 1) rfl rfl hC.l hC.s0 hC.s1, ?_⟩
      unfold TokEnd
      rw [HX.out]
      exact ⟨rfl, HB3.out.trans ⟨hC.os, hC.tape, hC.output, hC.size, fun j hj => hC.block j (Nat.lt_of_lt_of_le hj HB3.out.size) (by omega) (by omega)⟩⟩
  · have hx0 : tokensX s = match declX s with
      | .bad e a => .bad e a
      | .ok p _ => bodyX s p := by
      unfold tokensX
      rw [if_neg (by omega), if_neg hbk]
      cases declX s <;> rfl
    have hsp : spotV (brk s 0) = .agg #[.int .i64 0, .int .i64 0] := by unfold spotV; rw [if_neg hbk]
    rw [hsp] at hck
    have hs0 : s.extract 0 s.size = s := ByteArray.extract_zero_size
    have hpB : ∀ W, Calls Tryz.prog 33 #[.string s, .string ⟨#[60, 63, 120, 109, 108, 32, 118, 101, 114, 115, 105, 111, 110, 61, 34, 49, 46, 48, 34, 63, 62]⟩] W fun e w' => e = .returned (.bool (wdAt s 0 declB)) ∧ W = w' := fun W => by
      have h := prefix_at s 0 [60, 63, 120, 109, 108, 32, 118, 101, 114, 115, 105, 111, 110, 61, 34, 49, 46, 48, 34, 63, 62] (by decide) W
      rw [hs0] at h
      exact h
    have hpN : ∀ W, Calls Tryz.prog 33 #[.string s, .string ⟨#[60, 63, 120, 109, 108, 32, 118, 101, 114, 115, 105, 111, 110, 61, 34, 49, 46, 48, 34, 32, 101, 110, 99, 111, 100, 105, 110, 103, 61, 34, 85, 84, 70, 45, 56, 34, 63, 62]⟩] W fun e w' => e = .returned (.bool (wdAt s 0 declN)) ∧ W = w' := fun W => by
      have h := prefix_at s 0 [60, 63, 120, 109, 108, 32, 118, 101, 114, 115, 105, 111, 110, 61, 34, 49, 46, 48, 34, 32, 101, 110, 99, 111, 100, 105, 110, 103, 61, 34, 85, 84, 70, 45, 56, 34, 63, 62] (by decide) W
      rw [hs0] at h
      exact h
    have hp2 : ∀ W, Calls Tryz.prog 33 #[.string s, .string ⟨#[60, 63]⟩] W fun e w' => e = .returned (.bool (wdAt s 0 [60, 63])) ∧ W = w' := fun W => by
      have h := prefix_at s 0 [60, 63] (by decide) W
      rw [hs0] at h
      exact h
    have key : ∀ w2, Below w1.heap.size w1 w2 → ∃ rb w4, rb = w2.heap.size + 1 ∧ w4 = (w2.alloc (.cells #[.int .i64 0, .int .i64 0] 34)).alloc (.cells #[.string s, .int .i64 0, .slice none 0 0, .slice none 0 0, .pointer none, .slice none 0 0, .int .i64 (-1)] 97) ∧
        TokAt s w w4 w.heap.size (w.heap.size + 1) rb ∧ RdS (rb + 1) rb s 0 (.slice none 0 0) (.slice none 0 0) (.pointer none) (.slice none 0 0) (-1) [] [] [] w4 ∧ (∀ W, KeepX (rb + 1) rb w4 W → Gx W) := fun w2 hB2 => by
      refine ⟨_, _, rfl, rfl, ?_⟩
      have hzz := hB2.size
      have hB4 : Below w1.heap.size w1 ((w2.alloc (.cells #[.int .i64 0, .int .i64 0] 34)).alloc (.cells #[.string s, .int .i64 0, .slice none 0 0, .slice none 0 0, .pointer none, .slice none 0 0, .int .i64 (-1)] 97)) := (hB2.alloc hB2.size _).alloc (by simp; omega) _
      generalize hw4 : (w2.alloc (.cells #[.int .i64 0, .int .i64 0] 34)).alloc (.cells #[.string s, .int .i64 0, .slice none 0 0, .slice none 0 0, .pointer none, .slice none 0 0, .int .i64 (-1)] 97) = w4 at *
      have hz4 : w4.heap.size = w2.heap.size + 1 + 1 := by rw [← hw4]; simp
      have hrb : w4.heap[w2.heap.size + 1]? = some (.cells #[.string s, .int .i64 0, .slice none 0 0, .slice none 0 0, .pointer none, .slice none 0 0, .int .i64 (-1)] 97 (0, 0)) := by
        rw [← hw4]
        exact push_new _ _ _ (by simp)
      have hTA : TokAt s w w4 w.heap.size (w.heap.size + 1) (w2.heap.size + 1) := ⟨⟨(hB4.block _ (by omega)).trans hN1.1, (hB4.block _ (by omega)).trans hN1.2⟩, by omega, Nat.le_refl _, by omega, by omega, by omega, hB1.trans (hB4.mono (by omega))⟩
      refine ⟨hTA, ⟨⟨hrb, .inl rfl, rfl, ⟨rfl, .inl ⟨rfl, rfl⟩⟩, by simp [Value.ownBlock], by kernel_rfl, by omega⟩, ⟨[], GRow.nil _ _ _, rfl, fun j hj => absurd hj (by simp)⟩, GRow.nil _ _ _, by omega⟩, fun W hW => hG.on (hTA.belk hW)⟩
    have HX0 := Lib.hid hx0; have HKEY := Lib.hid key; have HW1 := Lib.hid hw1
    clear hx0 hsp hbk hs0 hB1 hN1 hw1 hz1 hG key
    have hmf : ∀ (fn : Fn) (first cap : Array Value) (w : World), (Instr.makeFunc fn first cap).run Tryz.prog w = .ok (.func fn first cap) w := fun _ _ _ _ => rfl
    have hwy := fun p W => want_yes p W
    by_cases hdB : wdAt s 0 declB = true
    · have hin : 21 ≤ s.size := by have := wdAt_in hdB (by decide) (Nat.zero_le _); simpa [declB] using this
      have hd : declX s = .ok 21 () := by unfold declX; rw [if_pos hdB]
      have hx := HX0.out
      rw [hd] at hx
      have HX := Lib.hid (show tokensX s = bodyX s 21 from hx)
      rw [hdB] at hpB
      clear hx hd hdB hpN hp2 HX0
      go_enter_defers Tryz.func18, Tryz.ntmps18
      go_wp2_with fail
      rw [HW1.out]
      refine hck.mono ?_
      rintro e w2 ⟨rfl, hB2⟩
      obtain ⟨rb, w4, hrb, hw4, hTA, hR4, hG4⟩ := HKEY.out w2 hB2
      have HTA := Lib.hid hTA; have HR4 := Lib.hid hR4; have HG4 := Lib.hid hG4
      have c1 := hR4.rdr.cell1
      have d1 := hR4.blk.free 1
      clear hTA hR4 hG4 hck HKEY
      go_upto_region 9 with fail
      rw [← hw4, ← hrb]
      clear hw4 hrb hB2
      go_wp2_with fail
      refine (hpB _).mono ?_
      rintro e w' ⟨rfl, rfl⟩
      go_upto_region 13 with fail
      have hR5 : RdS (rb + 1) rb s 21 (.slice none 0 0) (.slice none 0 0) (.pointer none) (.slice none 0 0) (-1) [] [] [] (w4.setCell ⟨rb, 1, none⟩ (.int .i64 21)) := HR4.out.set1 21
      have hK5 : KeepX (rb + 1) rb w4 (w4.setCell ⟨rb, 1, none⟩ (.int .i64 21)) := (KeepX.refl _ _ _).setCell 1 _
      generalize w4.setCell ⟨rb, 1, none⟩ (.int .i64 21) = W5 at *
      clear c1 d1
      have hmi := misc_any hR5.rdr hin (by omega) (fun W hW => (HG4.out W (hK5.trans (hW.mono hR5.bld.lo))).1)
      have HR5 := Lib.hid hR5; have HK5 := Lib.hid hK5; have HMI := Lib.hid hmi; have HIN := Lib.hid hin
      clear hR5 hK5 hmi
      go_wp2_with fail
      refine HMI.out.mono ?_
      clear HMI
      intro e w6 hE
      unfold StepEnd at hE
      cases hm : miscX s 21 with
      | bad ee aa =>
        rw [hm] at hE
        obtain ⟨rfl, hK6⟩ := hE
        have HDX := Lib.hid (HX.out.trans (bodyX_miscbad hm))
        have HK6 := Lib.hid (HK5.out.trans (hK6.mono HR5.out.bld.lo))
        clear hm hK6
        go_wp2_with fail
        exact HTA.out.dead rfl rfl HK6.out HDX.out
      | ok p u =>
        rw [hm] at hE
        obtain ⟨rfl, hM6⟩ := hE
        obtain ⟨hp1, hp2⟩ := miscX_in hm HIN.out
        have hR6 := HR5.out.moved hM6
        have hK6 := HK5.out.trans (HR5.out.keep hM6)
        have hnx := next_any hR6.rdr hp2
        have HM := Lib.hid hm; have HR6 := Lib.hid hR6; have HK6 := Lib.hid hK6
        clear hm hM6 hR6 hK6
        by_cases h60 : bt s p = 60
        · rw [h60] at hnx
          have hlt : p < s.size := by
            by_cases hp : p < s.size
            · exact hp
            · rw [bt_end s (by omega)] at h60; omega
          have H60 := Lib.hid h60; have HLT := Lib.hid hlt
          clear h60 hlt
          go_wp2_with fail
          refine hnx.mono ?_
          rintro e w7 ⟨rfl, hB7⟩
          have hR7 := HR6.out.on hB7
          have hK7 := HK6.out.trans (KeepX.of hB7 HR6.out.bld.lo)
          have hbeg := begin_any hR7 HLT.out (by omega) (fun W hW => HG4.out W (hK7.trans hW)) (by simp) (by simp)
          rw [show ([] : List ByteArray).length = 0 from rfl] at hbeg
          have HBEG := Lib.hid hbeg; have HR7 := Lib.hid hR7; have HK7 := Lib.hid hK7
          clear hbeg hR7 hK7 hnx hB7
          go_wp2_with fail
          refine (hwy _ _).mono ?_
          rintro e w' ⟨rfl, rfl⟩
          go_wp2_with fail
          refine HBEG.out.mono ?_
          clear HBEG
          intro e w8 hE
          unfold BegEnd at hE
          cases hb : begX s p 0 with
          | bad ee aa =>
            rw [hb] at hE
            obtain ⟨rfl, hK8⟩ := hE
            have HDX := Lib.hid (HX.out.trans (bodyX_begbad HM.out H60.out hb))
            have HK8 := Lib.hid (HK7.out.trans hK8)
            clear hb hK8
            go_wp2_with fail
            exact HTA.out.dead rfl rfl HK8.out HDX.out
          | ok q x =>
            obtain ⟨nm, sh, l⟩ := x
            rw [hb] at hE
            obtain ⟨rfl, hK8, ov8, pv8, hR8⟩ := hE
            obtain ⟨hq1, hq2⟩ := begX_in hb HLT.out
            have hx := HX.out.trans (bodyX_go HM.out H60.out hb)
            have hK8 := HK7.out.trans hK8
            have hpl : (if sh = true then ([] : List ByteArray) else [] ++ [nm]).length ≤ 64 := by cases sh <;> simp
            have hol : ([] ++ begT p nm sh l).length ≤ 2 * q := by rw [List.nil_append]; have := begT_len p nm sh l; omega
            have hho := holds_any (from_ := none) hR8 hq2 hz (fun W hW => HG4.out W (hK8.trans hW)) hpl hol (by simp) (fun _ => rfl)
            have HHO := Lib.hid hho; have HK8 := Lib.hid hK8; have HX8 := Lib.hid hx
            clear hho hK8 hx hb hR8 hpl hol
            go_wp2_with fail
            refine HHO.out.mono ?_
            clear HHO
            intro e w9 hE
            have hx := HX8.out
            change HoldEnd _ _ _ _ (holdF s (s.size + 1 - q) q ([] ++ begT p nm sh l) (if sh = true then [] else [] ++ [nm]) ⟨#[]⟩ none) _ _ at hE
            unfold HoldEnd at hE
            cases hh : holdF s (s.size + 1 - q) q ([] ++ begT p nm sh l) (if sh = true then [] else [] ++ [nm]) ⟨#[]⟩ none with
            | bad ee aa =>
              rw [hh] at hE hx
              obtain ⟨rfl, hK9⟩ := hE
              have HDX := Lib.hid (show tokensX s = .bad ee aa from hx)
              have HK9 := Lib.hid (HK8.out.trans hK9)
              clear hh hK9 hx
              go_wp2_with fail
              exact HTA.out.dead rfl rfl HK9.out HDX.out
            | ok r out2 =>
              rw [hh] at hE hx
              obtain ⟨rfl, hr, hK9, ov9, pv9, bp9, tv9, fr9, pile9, text9, hR9⟩ := hE
              have hK9 := HK8.out.trans hK9
              have hmi := misc_any hR9.rdr hr (by omega) (fun W hW => (HG4.out W (hK9.trans (hW.mono hR9.bld.lo))).1)
              have HMI := Lib.hid hmi; have HR9 := Lib.hid hR9; have HK9 := Lib.hid hK9; have HX9 := Lib.hid hx
              clear hmi hR9 hK9 hh hx
              go_wp2_with fail
              refine HMI.out.mono ?_
              clear HMI
              intro e w10 hE
              unfold StepEnd at hE
              have hx := HX9.out
              cases hm2 : miscX s r with
              | bad ee aa =>
                rw [hm2] at hE hx
                obtain ⟨rfl, hK10⟩ := hE
                have HDX := Lib.hid (show tokensX s = .bad ee aa from hx)
                have HK10 := Lib.hid (HK9.out.trans (hK10.mono HR9.out.bld.lo))
                clear hm2 hK10 hx
                go_wp2_with fail
                exact HTA.out.dead rfl rfl HK10.out HDX.out
              | ok z u2 =>
                rw [hm2] at hE hx
                obtain ⟨rfl, hM10⟩ := hE
                obtain ⟨hz1, hz2⟩ := miscX_in hm2 hr
                have hR10 := HR9.out.moved hM10
                have hK10 := HK9.out.trans (HR9.out.keep hM10)
                have c1 := hR10.rdr.cell1
                by_cases hzs : z = s.size
                · have hx2 : tokensX s = .ok z out2 := by
                    rw [hx]
                    simp only
                    rw [if_pos hzs]
                  have HOK := Lib.hid hx2
                  have hzI : (z : Int) = s.size := by omega
                  have hN := HTA.out.nmk hK10
                  have cl := cellH hN.1 0
                  have cs0 := cellH hN.2 0
                  have cs1 := cellH hN.2 1
                  have fl := freeH hN.1 0
                  have fs0 := freeH hN.2 0
                  have fs1 := freeH hN.2 1
                  have c2 : w10.cell? ⟨rb, 2, none⟩ = some ov9 := hR10.blk.cell 2
                  obtain ⟨ms, hrow, _⟩ := hR10.out
                  obtain ⟨oa, on, oc, hov⟩ := hrow.form'
                  subst hov
                  have hne := HTA.out.ne
                  have hne' : (w.heap.size + 1) ≠ w.heap.size := fun h => hne h.symm
                  have HCC := Lib.hid (caught_of (lv := .slice oa on oc) (e := 0) (a := 0) (Below.refl w10.heap.size w10) cl cs0 cs1 hne)
                  have HR10 := Lib.hid hR10; have HK10 := Lib.hid hK10
                  have hsame : (z : Int) = (s.size : Int) := hzI
                  clear hx hx2 hm2 hM10 hR10 hK10 hrow hN
                  rw [hzI] at c1
                  go_wp2_with fail
                  refine (hwy _ _).mono ?_
                  rintro e w' ⟨rfl, rfl⟩
                  go_wp2_with fail
                  have hC := HCC.out
                  refine tok_good (lb := w.heap.size) (sb := (w.heap.size + 1)) rfl rfl hC.l hC.s0 hC.s1 ?_
                  unfold TokEnd
                  rw [HOK.out]
                  have hBW := HTA.out.belk HK10.out
                  have hbl := fun k (hk : k < w10.heap.size) (h1 : k ≠ w.heap.size) (h2 : k ≠ (w.heap.size + 1)) => hC.block k hk h1 h2
                  have hlr := HTA.out.lr
                  have hsr := HTA.out.sr
                  refine ⟨_, rfl, OutAt.mono (HR10.out.out.later (fun g hg => ?_) (fun g c hg hc => hbl g (lt_some hc) (by omega) (by omega))) (by omega), hBW.trans ⟨hC.os, hC.tape, hC.output, hC.size, fun j hj => hbl j (Nat.lt_of_lt_of_le hj hBW.size) (by omega) (by omega)⟩⟩
                  obtain ⟨h1, c, hc⟩ := HR10.out.out.own g hg
                  exact hbl g (lt_some hc) (by omega) (by omega)
                · have hx2 : tokensX s = .bad 140 z := by
                    rw [hx]
                    simp only
                    rw [if_neg hzs]
                  have HDX := Lib.hid hx2
                  have hzn : ((z : Int) == (s.size : Int)) = false := by simp; omega
                  have hwn := want_no hR10.rdr
                  have HK10 := Lib.hid hK10
                  clear hx hx2 hm2 hM10 hR10 hK10 hzs
                  go_wp2_with fail
                  refine hwn.mono ?_
                  rintro e w' ⟨rfl, rfl⟩
                  go_wp2_with fail
                  exact HTA.out.dead rfl rfl HK10.out HDX.out
        · have h60n : (bt s p == 60) = false := by simpa using h60
          have HDX := Lib.hid (HX.out.trans (bodyX_nolt HM.out h60))
          clear h60
          go_wp2_with fail
          refine hnx.mono ?_
          rintro e w7 ⟨rfl, hB7⟩
          have hR7 := HR6.out.on hB7
          have hwn := want_no hR7.rdr
          have HK7 := Lib.hid (HK6.out.trans (KeepX.of hB7 HR6.out.bld.lo))
          clear hR7 hB7 hnx
          go_wp2_with fail
          refine hwn.mono ?_
          rintro e w' ⟨rfl, rfl⟩
          go_wp2_with fail
          exact HTA.out.dead rfl rfl HK7.out HDX.out
    · have hdBn : wdAt s 0 declB = false := by simpa using hdB
      rw [hdBn] at hpB
      by_cases hdN : wdAt s 0 declN = true
      · have hin : 38 ≤ s.size := by have := wdAt_in hdN (by decide) (Nat.zero_le _); simpa [declN] using this
        have hd : declX s = .ok 38 () := by unfold declX; rw [if_neg hdB, if_pos hdN]
        have hx := HX0.out
        rw [hd] at hx
        have HX := Lib.hid (show tokensX s = bodyX s 38 from hx)
        rw [hdN] at hpN
        clear hx hd hdB hdBn hdN hp2 HX0
        go_enter_defers Tryz.func18, Tryz.ntmps18
        go_wp2_with fail
        rw [HW1.out]
        refine hck.mono ?_
        rintro e w2 ⟨rfl, hB2⟩
        obtain ⟨rb, w4, hrb, hw4, hTA, hR4, hG4⟩ := HKEY.out w2 hB2
        have HTA := Lib.hid hTA; have HR4 := Lib.hid hR4; have HG4 := Lib.hid hG4
        have c1 := hR4.rdr.cell1
        have d1 := hR4.blk.free 1
        clear hTA hR4 hG4 hck HKEY
        go_upto_region 9 with fail
        rw [← hw4, ← hrb]
        clear hw4 hrb hB2
        go_wp2_with fail
        refine (hpB _).mono ?_
        rintro e w' ⟨rfl, rfl⟩
        go_wp2_with fail
        refine (hpN _).mono ?_
        rintro e w' ⟨rfl, rfl⟩
        go_upto_region 13 with fail
        have hR5 : RdS (rb + 1) rb s 38 (.slice none 0 0) (.slice none 0 0) (.pointer none) (.slice none 0 0) (-1) [] [] [] (w4.setCell ⟨rb, 1, none⟩ (.int .i64 38)) := HR4.out.set1 38
        have hK5 : KeepX (rb + 1) rb w4 (w4.setCell ⟨rb, 1, none⟩ (.int .i64 38)) := (KeepX.refl _ _ _).setCell 1 _
        generalize w4.setCell ⟨rb, 1, none⟩ (.int .i64 38) = W5 at *
        clear c1 d1
        have hmi := misc_any hR5.rdr hin (by omega) (fun W hW => (HG4.out W (hK5.trans (hW.mono hR5.bld.lo))).1)
        have HR5 := Lib.hid hR5; have HK5 := Lib.hid hK5; have HMI := Lib.hid hmi; have HIN := Lib.hid hin
        clear hR5 hK5 hmi
        go_wp2_with fail
        refine HMI.out.mono ?_
        clear HMI
        intro e w6 hE
        unfold StepEnd at hE
        cases hm : miscX s 38 with
        | bad ee aa =>
          rw [hm] at hE
          obtain ⟨rfl, hK6⟩ := hE
          have HDX := Lib.hid (HX.out.trans (bodyX_miscbad hm))
          have HK6 := Lib.hid (HK5.out.trans (hK6.mono HR5.out.bld.lo))
          clear hm hK6
          go_wp2_with fail
          exact HTA.out.dead rfl rfl HK6.out HDX.out
        | ok p u =>
          rw [hm] at hE
          obtain ⟨rfl, hM6⟩ := hE
          obtain ⟨hp1, hp2⟩ := miscX_in hm HIN.out
          have hR6 := HR5.out.moved hM6
          have hK6 := HK5.out.trans (HR5.out.keep hM6)
          have hnx := next_any hR6.rdr hp2
          have HM := Lib.hid hm; have HR6 := Lib.hid hR6; have HK6 := Lib.hid hK6
          clear hm hM6 hR6 hK6
          by_cases h60 : bt s p = 60
          · rw [h60] at hnx
            have hlt : p < s.size := by
              by_cases hp : p < s.size
              · exact hp
              · rw [bt_end s (by omega)] at h60; omega
            have H60 := Lib.hid h60; have HLT := Lib.hid hlt
            clear h60 hlt
            go_wp2_with fail
            refine hnx.mono ?_
            rintro e w7 ⟨rfl, hB7⟩
            have hR7 := HR6.out.on hB7
            have hK7 := HK6.out.trans (KeepX.of hB7 HR6.out.bld.lo)
            have hbeg := begin_any hR7 HLT.out (by omega) (fun W hW => HG4.out W (hK7.trans hW)) (by simp) (by simp)
            rw [show ([] : List ByteArray).length = 0 from rfl] at hbeg
            have HBEG := Lib.hid hbeg; have HR7 := Lib.hid hR7; have HK7 := Lib.hid hK7
            clear hbeg hR7 hK7 hnx hB7
            go_wp2_with fail
            refine (hwy _ _).mono ?_
            rintro e w' ⟨rfl, rfl⟩
            go_wp2_with fail
            refine HBEG.out.mono ?_
            clear HBEG
            intro e w8 hE
            unfold BegEnd at hE
            cases hb : begX s p 0 with
            | bad ee aa =>
              rw [hb] at hE
              obtain ⟨rfl, hK8⟩ := hE
              have HDX := Lib.hid (HX.out.trans (bodyX_begbad HM.out H60.out hb))
              have HK8 := Lib.hid (HK7.out.trans hK8)
              clear hb hK8
              go_wp2_with fail
              exact HTA.out.dead rfl rfl HK8.out HDX.out
            | ok q x =>
              obtain ⟨nm, sh, l⟩ := x
              rw [hb] at hE
              obtain ⟨rfl, hK8, ov8, pv8, hR8⟩ := hE
              obtain ⟨hq1, hq2⟩ := begX_in hb HLT.out
              have hx := HX.out.trans (bodyX_go HM.out H60.out hb)
              have hK8 := HK7.out.trans hK8
              have hpl : (if sh = true then ([] : List ByteArray) else [] ++ [nm]).length ≤ 64 := by cases sh <;> simp
              have hol : ([] ++ begT p nm sh l).length ≤ 2 * q := by rw [List.nil_append]; have := begT_len p nm sh l; omega
              have hho := holds_any (from_ := none) hR8 hq2 hz (fun W hW => HG4.out W (hK8.trans hW)) hpl hol (by simp) (fun _ => rfl)
              have HHO := Lib.hid hho; have HK8 := Lib.hid hK8; have HX8 := Lib.hid hx
              clear hho hK8 hx hb hR8 hpl hol
              go_wp2_with fail
              refine HHO.out.mono ?_
              clear HHO
              intro e w9 hE
              have hx := HX8.out
              change HoldEnd _ _ _ _ (holdF s (s.size + 1 - q) q ([] ++ begT p nm sh l) (if sh = true then [] else [] ++ [nm]) ⟨#[]⟩ none) _ _ at hE
              unfold HoldEnd at hE
              cases hh : holdF s (s.size + 1 - q) q ([] ++ begT p nm sh l) (if sh = true then [] else [] ++ [nm]) ⟨#[]⟩ none with
              | bad ee aa =>
                rw [hh] at hE hx
                obtain ⟨rfl, hK9⟩ := hE
                have HDX := Lib.hid (show tokensX s = .bad ee aa from hx)
                have HK9 := Lib.hid (HK8.out.trans hK9)
                clear hh hK9 hx
                go_wp2_with fail
                exact HTA.out.dead rfl rfl HK9.out HDX.out
              | ok r out2 =>
                rw [hh] at hE hx
                obtain ⟨rfl, hr, hK9, ov9, pv9, bp9, tv9, fr9, pile9, text9, hR9⟩ := hE
                have hK9 := HK8.out.trans hK9
                have hmi := misc_any hR9.rdr hr (by omega) (fun W hW => (HG4.out W (hK9.trans (hW.mono hR9.bld.lo))).1)
                have HMI := Lib.hid hmi; have HR9 := Lib.hid hR9; have HK9 := Lib.hid hK9; have HX9 := Lib.hid hx
                clear hmi hR9 hK9 hh hx
                go_wp2_with fail
                refine HMI.out.mono ?_
                clear HMI
                intro e w10 hE
                unfold StepEnd at hE
                have hx := HX9.out
                cases hm2 : miscX s r with
                | bad ee aa =>
                  rw [hm2] at hE hx
                  obtain ⟨rfl, hK10⟩ := hE
                  have HDX := Lib.hid (show tokensX s = .bad ee aa from hx)
                  have HK10 := Lib.hid (HK9.out.trans (hK10.mono HR9.out.bld.lo))
                  clear hm2 hK10 hx
                  go_wp2_with fail
                  exact HTA.out.dead rfl rfl HK10.out HDX.out
                | ok z u2 =>
                  rw [hm2] at hE hx
                  obtain ⟨rfl, hM10⟩ := hE
                  obtain ⟨hz1, hz2⟩ := miscX_in hm2 hr
                  have hR10 := HR9.out.moved hM10
                  have hK10 := HK9.out.trans (HR9.out.keep hM10)
                  have c1 := hR10.rdr.cell1
                  by_cases hzs : z = s.size
                  · have hx2 : tokensX s = .ok z out2 := by
                      rw [hx]
                      simp only
                      rw [if_pos hzs]
                    have HOK := Lib.hid hx2
                    have hzI : (z : Int) = s.size := by omega
                    have hN := HTA.out.nmk hK10
                    have cl := cellH hN.1 0
                    have cs0 := cellH hN.2 0
                    have cs1 := cellH hN.2 1
                    have fl := freeH hN.1 0
                    have fs0 := freeH hN.2 0
                    have fs1 := freeH hN.2 1
                    have c2 : w10.cell? ⟨rb, 2, none⟩ = some ov9 := hR10.blk.cell 2
                    obtain ⟨ms, hrow, _⟩ := hR10.out
                    obtain ⟨oa, on, oc, hov⟩ := hrow.form'
                    subst hov
                    have hne := HTA.out.ne
                    have hne' : (w.heap.size + 1) ≠ w.heap.size := fun h => hne h.symm
                    have HCC := Lib.hid (caught_of (lv := .slice oa on oc) (e := 0) (a := 0) (Below.refl w10.heap.size w10) cl cs0 cs1 hne)
                    have HR10 := Lib.hid hR10; have HK10 := Lib.hid hK10
                    have hsame : (z : Int) = (s.size : Int) := hzI
                    clear hx hx2 hm2 hM10 hR10 hK10 hrow hN
                    rw [hzI] at c1
                    go_wp2_with fail
                    refine (hwy _ _).mono ?_
                    rintro e w' ⟨rfl, rfl⟩
                    go_wp2_with fail
                    have hC := HCC.out
                    refine tok_good (lb := w.heap.size) (sb := (w.heap.size + 1)) rfl rfl hC.l hC.s0 hC.s1 ?_
                    unfold TokEnd
                    rw [HOK.out]
                    have hBW := HTA.out.belk HK10.out
                    have hbl := fun k (hk : k < w10.heap.size) (h1 : k ≠ w.heap.size) (h2 : k ≠ (w.heap.size + 1)) => hC.block k hk h1 h2
                    have hlr := HTA.out.lr
                    have hsr := HTA.out.sr
                    refine ⟨_, rfl, OutAt.mono (HR10.out.out.later (fun g hg => ?_) (fun g c hg hc => hbl g (lt_some hc) (by omega) (by omega))) (by omega), hBW.trans ⟨hC.os, hC.tape, hC.output, hC.size, fun j hj => hbl j (Nat.lt_of_lt_of_le hj hBW.size) (by omega) (by omega)⟩⟩
                    obtain ⟨h1, c, hc⟩ := HR10.out.out.own g hg
                    exact hbl g (lt_some hc) (by omega) (by omega)
                  · have hx2 : tokensX s = .bad 140 z := by
                      rw [hx]
                      simp only
                      rw [if_neg hzs]
                    have HDX := Lib.hid hx2
                    have hzn : ((z : Int) == (s.size : Int)) = false := by simp; omega
                    have hwn := want_no hR10.rdr
                    have HK10 := Lib.hid hK10
                    clear hx hx2 hm2 hM10 hR10 hK10 hzs
                    go_wp2_with fail
                    refine hwn.mono ?_
                    rintro e w' ⟨rfl, rfl⟩
                    go_wp2_with fail
                    exact HTA.out.dead rfl rfl HK10.out HDX.out
          · have h60n : (bt s p == 60) = false := by simpa using h60
            have HDX := Lib.hid (HX.out.trans (bodyX_nolt HM.out h60))
            clear h60
            go_wp2_with fail
            refine hnx.mono ?_
            rintro e w7 ⟨rfl, hB7⟩
            have hR7 := HR6.out.on hB7
            have hwn := want_no hR7.rdr
            have HK7 := Lib.hid (HK6.out.trans (KeepX.of hB7 HR6.out.bld.lo))
            clear hR7 hB7 hnx
            go_wp2_with fail
            refine hwn.mono ?_
            rintro e w' ⟨rfl, rfl⟩
            go_wp2_with fail
            exact HTA.out.dead rfl rfl HK7.out HDX.out
      · have hdNn : wdAt s 0 declN = false := by simpa using hdN
        rw [hdNn] at hpN
        by_cases h2 : wdAt s 0 [60, 63] = true
        · have hd : declX s = .bad 140 0 := by unfold declX; rw [if_neg hdB, if_neg hdN, if_pos h2]
          have hx := HX0.out
          rw [hd] at hx
          have HDX := Lib.hid (show tokensX s = .bad 140 0 from hx)
          rw [h2] at hp2
          clear hx hd hdB hdBn hdN hdNn h2 HX0
          go_enter_defers Tryz.func18, Tryz.ntmps18
          go_wp2_with fail
          rw [HW1.out]
          refine hck.mono ?_
          rintro e w2 ⟨rfl, hB2⟩
          obtain ⟨rb, w4, hrb, hw4, hTA, hR4, hG4⟩ := HKEY.out w2 hB2
          have HTA := Lib.hid hTA; have HR4 := Lib.hid hR4; have HG4 := Lib.hid hG4
          have c1 := hR4.rdr.cell1
          have d1 := hR4.blk.free 1
          clear hTA hR4 hG4 hck HKEY
          go_upto_region 9 with fail
          rw [← hw4, ← hrb]
          clear hw4 hrb hB2
          have hwn := want_no HR4.out.rdr
          go_wp2_with fail
          refine (hpB _).mono ?_
          rintro e w' ⟨rfl, rfl⟩
          go_wp2_with fail
          refine (hpN _).mono ?_
          rintro e w' ⟨rfl, rfl⟩
          go_wp2_with fail
          refine (hp2 _).mono ?_
          rintro e w' ⟨rfl, rfl⟩
          go_wp2_with fail
          refine hwn.mono ?_
          rintro e w' ⟨rfl, rfl⟩
          go_wp2_with fail
          exact HTA.out.dead rfl rfl (KeepX.refl _ _ _) HDX.out
        · have h2n : wdAt s 0 [60, 63] = false := by simpa using h2
          have hd : declX s = .ok 0 () := by unfold declX; rw [if_neg hdB, if_neg hdN, if_neg h2]
          have hx := HX0.out
          rw [hd] at hx
          have HX := Lib.hid (show tokensX s = bodyX s 0 from hx)
          rw [h2n] at hp2
          have hin := Nat.zero_le s.size
          clear hx hd hdB hdBn hdN hdNn h2 h2n HX0
          go_enter_defers Tryz.func18, Tryz.ntmps18
          go_wp2_with fail
          rw [HW1.out]
          refine hck.mono ?_
          rintro e w2 ⟨rfl, hB2⟩
          obtain ⟨rb, w4, hrb, hw4, hTA, hR4, hG4⟩ := HKEY.out w2 hB2
          have HTA := Lib.hid hTA; have HR4 := Lib.hid hR4; have HG4 := Lib.hid hG4
          have c1 := hR4.rdr.cell1
          have d1 := hR4.blk.free 1
          clear hTA hR4 hG4 hck HKEY
          go_upto_region 9 with fail
          rw [← hw4, ← hrb]
          clear hw4 hrb hB2
          go_wp2_with fail
          refine (hpB _).mono ?_
          rintro e w' ⟨rfl, rfl⟩
          go_wp2_with fail
          refine (hpN _).mono ?_
          rintro e w' ⟨rfl, rfl⟩
          go_wp2_with fail
          refine (hp2 _).mono ?_
          rintro e w' ⟨rfl, rfl⟩
          go_wp2_with fail
          refine (hwy _ _).mono ?_
          rintro e w' ⟨rfl, rfl⟩
          have hR5 := HR4.out
          have hK5 : KeepX (rb + 1) rb w4 w4 := KeepX.refl _ _ _
          go_upto_region 13 with fail
          clear c1 d1
          have hmi := misc_any hR5.rdr hin (by omega) (fun W hW => (HG4.out W (hK5.trans (hW.mono hR5.bld.lo))).1)
          have HR5 := Lib.hid hR5; have HK5 := Lib.hid hK5; have HMI := Lib.hid hmi; have HIN := Lib.hid hin
          clear hR5 hK5 hmi
          go_wp2_with fail
          refine HMI.out.mono ?_
          clear HMI
          intro e w6 hE
          unfold StepEnd at hE
          cases hm : miscX s 0 with
          | bad ee aa =>
            rw [hm] at hE
            obtain ⟨rfl, hK6⟩ := hE
            have HDX := Lib.hid (HX.out.trans (bodyX_miscbad hm))
            have HK6 := Lib.hid (HK5.out.trans (hK6.mono HR5.out.bld.lo))
            clear hm hK6
            go_wp2_with fail
            exact HTA.out.dead rfl rfl HK6.out HDX.out
          | ok p u =>
            rw [hm] at hE
            obtain ⟨rfl, hM6⟩ := hE
            obtain ⟨hp1, hp2⟩ := miscX_in hm HIN.out
            have hR6 := HR5.out.moved hM6
            have hK6 := HK5.out.trans (HR5.out.keep hM6)
            have hnx := next_any hR6.rdr hp2
            have HM := Lib.hid hm; have HR6 := Lib.hid hR6; have HK6 := Lib.hid hK6
            clear hm hM6 hR6 hK6
            by_cases h60 : bt s p = 60
            · rw [h60] at hnx
              have hlt : p < s.size := by
                by_cases hp : p < s.size
                · exact hp
                · rw [bt_end s (by omega)] at h60; omega
              have H60 := Lib.hid h60; have HLT := Lib.hid hlt
              clear h60 hlt
              go_wp2_with fail
              refine hnx.mono ?_
              rintro e w7 ⟨rfl, hB7⟩
              have hR7 := HR6.out.on hB7
              have hK7 := HK6.out.trans (KeepX.of hB7 HR6.out.bld.lo)
              have hbeg := begin_any hR7 HLT.out (by omega) (fun W hW => HG4.out W (hK7.trans hW)) (by simp) (by simp)
              rw [show ([] : List ByteArray).length = 0 from rfl] at hbeg
              have HBEG := Lib.hid hbeg; have HR7 := Lib.hid hR7; have HK7 := Lib.hid hK7
              clear hbeg hR7 hK7 hnx hB7
              go_wp2_with fail
              refine (hwy _ _).mono ?_
              rintro e w' ⟨rfl, rfl⟩
              go_wp2_with fail
              refine HBEG.out.mono ?_
              clear HBEG
              intro e w8 hE
              unfold BegEnd at hE
              cases hb : begX s p 0 with
              | bad ee aa =>
                rw [hb] at hE
                obtain ⟨rfl, hK8⟩ := hE
                have HDX := Lib.hid (HX.out.trans (bodyX_begbad HM.out H60.out hb))
                have HK8 := Lib.hid (HK7.out.trans hK8)
                clear hb hK8
                go_wp2_with fail
                exact HTA.out.dead rfl rfl HK8.out HDX.out
              | ok q x =>
                obtain ⟨nm, sh, l⟩ := x
                rw [hb] at hE
                obtain ⟨rfl, hK8, ov8, pv8, hR8⟩ := hE
                obtain ⟨hq1, hq2⟩ := begX_in hb HLT.out
                have hx := HX.out.trans (bodyX_go HM.out H60.out hb)
                have hK8 := HK7.out.trans hK8
                have hpl : (if sh = true then ([] : List ByteArray) else [] ++ [nm]).length ≤ 64 := by cases sh <;> simp
                have hol : ([] ++ begT p nm sh l).length ≤ 2 * q := by rw [List.nil_append]; have := begT_len p nm sh l; omega
                have hho := holds_any (from_ := none) hR8 hq2 hz (fun W hW => HG4.out W (hK8.trans hW)) hpl hol (by simp) (fun _ => rfl)
                have HHO := Lib.hid hho; have HK8 := Lib.hid hK8; have HX8 := Lib.hid hx
                clear hho hK8 hx hb hR8 hpl hol
                go_wp2_with fail
                refine HHO.out.mono ?_
                clear HHO
                intro e w9 hE
                have hx := HX8.out
                change HoldEnd _ _ _ _ (holdF s (s.size + 1 - q) q ([] ++ begT p nm sh l) (if sh = true then [] else [] ++ [nm]) ⟨#[]⟩ none) _ _ at hE
                unfold HoldEnd at hE
                cases hh : holdF s (s.size + 1 - q) q ([] ++ begT p nm sh l) (if sh = true then [] else [] ++ [nm]) ⟨#[]⟩ none with
                | bad ee aa =>
                  rw [hh] at hE hx
                  obtain ⟨rfl, hK9⟩ := hE
                  have HDX := Lib.hid (show tokensX s = .bad ee aa from hx)
                  have HK9 := Lib.hid (HK8.out.trans hK9)
                  clear hh hK9 hx
                  go_wp2_with fail
                  exact HTA.out.dead rfl rfl HK9.out HDX.out
                | ok r out2 =>
                  rw [hh] at hE hx
                  obtain ⟨rfl, hr, hK9, ov9, pv9, bp9, tv9, fr9, pile9, text9, hR9⟩ := hE
                  have hK9 := HK8.out.trans hK9
                  have hmi := misc_any hR9.rdr hr (by omega) (fun W hW => (HG4.out W (hK9.trans (hW.mono hR9.bld.lo))).1)
                  have HMI := Lib.hid hmi; have HR9 := Lib.hid hR9; have HK9 := Lib.hid hK9; have HX9 := Lib.hid hx
                  clear hmi hR9 hK9 hh hx
                  go_wp2_with fail
                  refine HMI.out.mono ?_
                  clear HMI
                  intro e w10 hE
                  unfold StepEnd at hE
                  have hx := HX9.out
                  cases hm2 : miscX s r with
                  | bad ee aa =>
                    rw [hm2] at hE hx
                    obtain ⟨rfl, hK10⟩ := hE
                    have HDX := Lib.hid (show tokensX s = .bad ee aa from hx)
                    have HK10 := Lib.hid (HK9.out.trans (hK10.mono HR9.out.bld.lo))
                    clear hm2 hK10 hx
                    go_wp2_with fail
                    exact HTA.out.dead rfl rfl HK10.out HDX.out
                  | ok z u2 =>
                    rw [hm2] at hE hx
                    obtain ⟨rfl, hM10⟩ := hE
                    obtain ⟨hz1, hz2⟩ := miscX_in hm2 hr
                    have hR10 := HR9.out.moved hM10
                    have hK10 := HK9.out.trans (HR9.out.keep hM10)
                    have c1 := hR10.rdr.cell1
                    by_cases hzs : z = s.size
                    · have hx2 : tokensX s = .ok z out2 := by
                        rw [hx]
                        simp only
                        rw [if_pos hzs]
                      have HOK := Lib.hid hx2
                      have hzI : (z : Int) = s.size := by omega
                      have hN := HTA.out.nmk hK10
                      have cl := cellH hN.1 0
                      have cs0 := cellH hN.2 0
                      have cs1 := cellH hN.2 1
                      have fl := freeH hN.1 0
                      have fs0 := freeH hN.2 0
                      have fs1 := freeH hN.2 1
                      have c2 : w10.cell? ⟨rb, 2, none⟩ = some ov9 := hR10.blk.cell 2
                      obtain ⟨ms, hrow, _⟩ := hR10.out
                      obtain ⟨oa, on, oc, hov⟩ := hrow.form'
                      subst hov
                      have hne := HTA.out.ne
                      have hne' : (w.heap.size + 1) ≠ w.heap.size := fun h => hne h.symm
                      have HCC := Lib.hid (caught_of (lv := .slice oa on oc) (e := 0) (a := 0) (Below.refl w10.heap.size w10) cl cs0 cs1 hne)
                      have HR10 := Lib.hid hR10; have HK10 := Lib.hid hK10
                      have hsame : (z : Int) = (s.size : Int) := hzI
                      clear hx hx2 hm2 hM10 hR10 hK10 hrow hN
                      rw [hzI] at c1
                      go_wp2_with fail
                      refine (hwy _ _).mono ?_
                      rintro e w' ⟨rfl, rfl⟩
                      go_wp2_with fail
                      have hC := HCC.out
                      refine tok_good (lb := w.heap.size) (sb := (w.heap.size + 1)) rfl rfl hC.l hC.s0 hC.s1 ?_
                      unfold TokEnd
                      rw [HOK.out]
                      have hBW := HTA.out.belk HK10.out
                      have hbl := fun k (hk : k < w10.heap.size) (h1 : k ≠ w.heap.size) (h2 : k ≠ (w.heap.size + 1)) => hC.block k hk h1 h2
                      have hlr := HTA.out.lr
                      have hsr := HTA.out.sr
                      refine ⟨_, rfl, OutAt.mono (HR10.out.out.later (fun g hg => ?_) (fun g c hg hc => hbl g (lt_some hc) (by omega) (by omega))) (by omega), hBW.trans ⟨hC.os, hC.tape, hC.output, hC.size, fun j hj => hbl j (Nat.lt_of_lt_of_le hj hBW.size) (by omega) (by omega)⟩⟩
                      obtain ⟨h1, c, hc⟩ := HR10.out.out.own g hg
                      exact hbl g (lt_some hc) (by omega) (by omega)
                    · have hx2 : tokensX s = .bad 140 z := by
                        rw [hx]
                        simp only
                        rw [if_neg hzs]
                      have HDX := Lib.hid hx2
                      have hzn : ((z : Int) == (s.size : Int)) = false := by simp; omega
                      have hwn := want_no hR10.rdr
                      have HK10 := Lib.hid hK10
                      clear hx hx2 hm2 hM10 hR10 hK10 hzs
                      go_wp2_with fail
                      refine hwn.mono ?_
                      rintro e w' ⟨rfl, rfl⟩
                      go_wp2_with fail
                      exact HTA.out.dead rfl rfl HK10.out HDX.out
            · have h60n : (bt s p == 60) = false := by simpa using h60
              have HDX := Lib.hid (HX.out.trans (bodyX_nolt HM.out h60))
              clear h60
              go_wp2_with fail
              refine hnx.mono ?_
              rintro e w7 ⟨rfl, hB7⟩
              have hR7 := HR6.out.on hB7
              have hwn := want_no hR7.rdr
              have HK7 := Lib.hid (HK6.out.trans (KeepX.of hB7 HR6.out.bld.lo))
              clear hR7 hB7 hnx
              go_wp2_with fail
              refine hwn.mono ?_
              rintro e w' ⟨rfl, rfl⟩
              go_wp2_with fail
              exact HTA.out.dead rfl rfl HK7.out HDX.out
end
end Go.Proofs.YtdipbfchlopeaaaGreatDoor
