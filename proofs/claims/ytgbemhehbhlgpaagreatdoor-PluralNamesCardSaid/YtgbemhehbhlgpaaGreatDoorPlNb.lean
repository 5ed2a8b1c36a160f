/-
  The six categories, one after the other: the contracts of slices.Values over texts and of plural.Categories.
-/
import Derived.RangeFuncNested
import Derived.RangeFuncBound
import Derived.RangeFuncCalls
import Derived.RangeFuncLeaves
import Derived.Shelf.Abstract
import Derived.Shelf.RegionOpen
import Derived.OwnWalkIn
import Derived.TacticsInMore
import Derived.LoopNIn
import Derived.LoopIn
import Derived.Test.YtgbemhehbhlgpaaGreatDoorPlNa
namespace Go.Proofs.YtgbemhehbhlgpaaGreatDoor
open Go.RowKit Go.Shelf Go.PlainAid
attribute [local go_sem] Oper.semAt_some

/-- Below N, but for the block x, the world w' is as w was. -/
structure KeepX (N x : Nat) (w w' : World) : Prop where
  os : w'.os = w.os
  tape : w'.tape = w.tape
  output : w'.output = w.output
  size : w.heap.size ≤ w'.heap.size
  block : ∀ k, k < N → k ≠ x → w'.heap[k]? = w.heap[k]?
theorem KeepX.refl (N x : Nat) (w : World) : KeepX N x w w := ⟨rfl, rfl, rfl, Nat.le_refl _, fun _ _ _ => rfl⟩
theorem KeepX.trans {N x : Nat} {a b c : World} (h : KeepX N x a b) (k : KeepX N x b c) : KeepX N x a c :=
  ⟨k.os.trans h.os, k.tape.trans h.tape, k.output.trans h.output, Nat.le_trans h.size k.size, fun i hi hx => (k.block i hi hx).trans (h.block i hi hx)⟩
theorem KeepX.of {N x M : Nat} {a b : World} (h : Below M a b) (hM : N ≤ M) : KeepX N x a b := ⟨h.os, h.tape, h.output, h.size, fun k hk _ => h.block k (by omega)⟩
theorem KeepX.below {N x M : Nat} {a b : World} (h : KeepX N x a b) (hN : M ≤ N) (hx : M ≤ x) : Below M a b := ⟨h.os, h.tape, h.output, h.size, fun k hk => h.block k (by omega) (by omega)⟩
theorem KeepX.setCell {N x : Nat} {a w : World} (h : KeepX N x a w) (v : Value) : KeepX N x a (w.setCell ⟨x, 0, none⟩ v) :=
  h.trans ⟨rfl, rfl, rfl, by simp [World.setCell], fun k _ hx => Below.heap_setCell _ _ _ _ hx⟩
theorem KeepX.grown {N x : Nat} {a w w' : World} {row : Option Nat} (h : KeepX N x a w) (hg : w.grownBy w' row) (hN : N ≤ w.heap.size) (hr : ∀ k, row = some k → N ≤ k) : KeepX N x a w' :=
  h.trans (KeepX.of ((Below.refl N w).grown hg hN hr) (Nat.le_refl _))
theorem KeepX.cell {N x : Nat} {w w' : World} (h : KeepX N x w w') {k j : Nat} (hk : k < N) (hx : k ≠ x) : w'.cell? ⟨k, j, none⟩ = w.cell? ⟨k, j, none⟩ := World.cell?_of_block (w := w) (h.block k hk hx)
theorem KeepX.boxed {N x : Nat} {w w' : World} (h : KeepX N x w w') {k : Nat} {t : TypeId} {v : Value} (hb : Boxed w k t v) (hk : k < N) (hx : k ≠ x) : Boxed w' k t v := (h.block k hk hx).trans hb
theorem keepX_b {N x : Nat} {w : World} (hN : N ≤ w.heap.size) (W : World) (l : Nat) (o o' : Obj) (hl : w.heap.size ≤ l) (h : W.heap[l]? = some o) (hc : o.isCells = false) (hw : o.isWalk = false) : KeepX N x W (W.putObj l o') :=
  KeepX.of (belowK_b hN W l o o' hl h hc hw) (Nat.le_refl _)
theorem ownFrom_keepX {β : Type} {N x B : Nat} {w₀ : World} (hn : N ≤ w₀.heap.size) (hB : N ≤ B) : OwnFrom B (fun (_ : β) W => KeepX N x w₀ W) :=
  fun _ _ _ _ hs hg hr => hs.grown hg (Nat.le_trans hn hs.size) (fun k e => Nat.le_trans hB (hr k e).1)

/-- What has come when k rounds are over. -/
def upS (zs : List ByteArray) (k : Nat) : List ByteArray := (List.range k).map (fun j => zs[j]?.getD ByteArray.empty)
theorem upS_succ (zs : List ByteArray) (k : Nat) : upS zs (k + 1) = upS zs k ++ [zs[k]?.getD ByteArray.empty] := by simp [upS, List.range_succ]
theorem upS_length (zs : List ByteArray) (k : Nat) : (upS zs k).length = k := by simp [upS]
theorem upS_take (zs : List ByteArray) {k : Nat} (hk : k ≤ zs.length) : upS zs k = zs.take k := by
  apply List.ext_getElem
  · simp [upS, hk]
  · intro i h1 h2
    have : i < zs.length := by simp [upS] at h1; omega
    simp [upS, this]

set_option maxRecDepth 100000 in
set_option maxHeartbeats 2000000 in
theorem vals1_in (n : Nat) (hn : 1 ≤ n) (l Bs b cap : Nat) (zs : List ByteArray) (hz : zs.length ≤ 1000) (Kp : World → World → Prop) (hKc : ∀ A B j, Kp A B → B.cell? ⟨b, j, none⟩ = A.cell? ⟨b, j, none⟩) (J Jx : List ByteArray → World → Prop)
    (hY : ∀ pre x W, J pre W → pre.length < zs.length → YieldAt Fence.wide (n - 1) Tryz.prog l #[.string x] W fun e W' =>
      (e = .returned (.bool true) ∧ J (pre ++ [x]) W' ∧ Kp W W') ∨ (e = .returned (.bool false) ∧ Jx (pre ++ [x]) W'))
    (W : World) (hBs : W.cell? ⟨Bs, 0, none⟩ = some (.slice (some ⟨b, 0, none⟩) zs.length cap)) (hc : ∀ j, j < zs.length → W.cell? ⟨b, j, none⟩ = some (.string (zs[j]?.getD ByteArray.empty))) (h0 : J [] W) :
    CallsIn Fence.wide n Tryz.prog 51 #[.func (.yield l) #[] #[], .pointer (some ⟨Bs, 0, none⟩)] W fun e W' => (∃ v, e = .returned v) ∧
      ((∃ ys, ys = zs ∧ J ys W') ∨ (∃ pre, pre <+: zs ∧ Jx pre W')) := by
  refine callsIn_of_wp Tryz.func51 rfl trivial ?_ rfl
  simp only [Tryz.ntmps51, List.size_toArray, List.length_cons, List.length_nil, Nat.reduceAdd, Nat.reduceSub, Array.replicate_succ, Array.replicate_zero, List.push_toArray, List.append_toArray, List.nil_append, List.cons_append]
  gi_wp2
  gi_loopw [7] (fun i wr => ∃ k : Nat, k ≤ zs.length ∧ i = .int .i64 k ∧ J (upS zs k) wr ∧ ∀ j, wr.cell? ⟨b, j, none⟩ = W.cell? ⟨b, j, none⟩)
    (fun i _ => zs.length - (intOf i).toNat)
  case atStart => exact ⟨0, Nat.zero_le _, rfl, h0, fun _ => rfl⟩
  case round =>
    obtain ⟨k, hk, rfl, hJs, hnx⟩ := hrel
    have hcx : k < zs.length → wr.cell? ⟨b, k, none⟩ = some (.string (zs[k]?.getD ByteArray.empty)) := fun h => (hnx k).trans (hc k h)
    by_cases hlt : k < zs.length
    · obtain ⟨fn, tmps, assign, body, hy, hR⟩ := hY _ (zs[k]?.getD ByteArray.empty) wr hJs (by rw [upS_length]; exact hlt)
      have hcx' := hcx hlt
      have hst := upS_succ zs k
      have HST := Lib.hid hst
      generalize zs[k]?.getD ByteArray.empty = Z at *
      have HNX := Lib.hid hnx
      clear hst hcx hnx
      gi_wp2
      refine hR.mono ?_
      rintro e W3 (⟨rfl, hJ3, hk3⟩ | ⟨rfl, hJx3⟩)
      · gi_wp2
        go_roundw
        case rel => exact ⟨k + 1, by omega, by simp, by rw [HST.out]; exact hJ3, fun j => (hKc _ _ j hk3).trans (HNX.out j)⟩
        case measure => simp [intOf]; omega
      · gi_wp2
        refine bodyPost_ret (results_none rfl _ _ _) rfl ?_
        exact ⟨⟨_, rfl⟩, .inr ⟨_, by rw [← HST.out, upS_take zs (by omega)]; exact List.take_prefix _ _, hJx3⟩⟩
    · obtain rfl : k = zs.length := by omega
      clear hcx hnx
      gi_wp2
      go_end0
      exact ⟨⟨_, rfl⟩, .inl ⟨_, by rw [upS_take zs (Nat.le_refl _), List.take_length], hJs⟩⟩

theorem values_any (a : Option Addr) (len cap : Nat) (w : World) :
    Calls Tryz.prog 31 #[.slice a len cap] w fun e w' => e = .returned (.func (.func 51) #[] #[.pointer (some ⟨w.heap.size, 0, none⟩)]) ∧ w' = w.alloc (.cells #[.slice a len cap] 31) := by
  go_enter Tryz.func31, Tryz.ntmps31
  go_wp2_with fail
  go_ret
  exact ⟨rfl, rfl⟩
/-- The world behind plural.Categories: the six in a block, the slice in a box. -/
def catW (w : World) : World := (w.alloc (.cells (six.map Value.string).toArray 9)).alloc (.cells #[.slice (some ⟨w.heap.size, 0, none⟩) 6 6] 31)
theorem cats_any (w : World) (hT : SpTab w) :
    Calls Tryz.prog 12 #[] w fun e w' => e = .returned (.func (.func 51) #[] #[.pointer (some ⟨w.heap.size + 1, 0, none⟩)]) ∧ w' = catW w := by
  have hf := fields_six w hT
  have hv := values_any (some ⟨w.heap.size, 0, none⟩) 6 6 (w.alloc (.cells (six.map Value.string).toArray 9))
  have hz : (w.alloc (.cells (six.map Value.string).toArray 9)).heap.size = w.heap.size + 1 := by simp
  have hC : catW w = (w.alloc (.cells (six.map Value.string).toArray 9)).alloc (.cells #[.slice (some ⟨w.heap.size, 0, none⟩) 6 6] 31) := rfl
  have HC := Lib.hid hC
  rw [hz] at hv
  generalize w.alloc (.cells (six.map Value.string).toArray 9) = w1 at *
  unfold namesB at hf
  clear hC
  go_enter Tryz.func12, Tryz.ntmps12
  go_wp2_with fail
  refine hf.mono ?_
  rintro e w' ⟨rfl, rfl⟩
  go_wp2_with fail
  refine hv.mono ?_
  rintro e w'' ⟨rfl, rfl⟩
  go_wp2_with fail
  go_ret
  exact ⟨rfl, HC.out.symm⟩
theorem catW_below (w : World) : Below w.heap.size w (catW w) := ((Below.refl w.heap.size w).alloc (Nat.le_refl _) _).alloc (by simp) _
theorem catW_size (w : World) : (catW w).heap.size = w.heap.size + 2 := by unfold catW; simp
/-- What plural.Categories hands back has its contract, from the world behind it on. -/
theorem cats_stops (n : Nat) (hn : 1 ≤ n) (w W0 : World) (hB : Below (w.heap.size + 2) (catW w) W0) (Kp : World → World → Prop) (hKc : ∀ A B j, Kp A B → B.cell? ⟨w.heap.size, j, none⟩ = A.cell? ⟨w.heap.size, j, none⟩) :
    SeqStopsK Fence.wide n Tryz.prog 51 #[.pointer (some ⟨w.heap.size + 1, 0, none⟩)] (fun x : ByteArray => #[Value.string x]) Kp (fun ys => ys = six) (fun pre => pre <+: six) 6 W0 := fun l J Jx W hW _ _ hY h0 => by
  have hB2 : Below (w.heap.size + 2) (catW w) W := hB.trans (hW.mono (by have := hB.size; rw [catW_size] at this; exact this))
  have k1 : Blk (w.alloc (.cells (six.map Value.string).toArray 9)) w.heap.size (six.map Value.string).toArray := Blk.new w (six.map Value.string).toArray 9
  have k2 : Blk (catW w) (w.heap.size + 1) #[.slice (some ⟨w.heap.size, 0, none⟩) 6 6] := by
    have := Blk.new (w.alloc (.cells (six.map Value.string).toArray 9)) #[.slice (some ⟨w.heap.size, 0, none⟩) 6 6] 31
    rw [World.size_alloc] at this
    exact this
  have k3 : Blk (catW w) w.heap.size (six.map Value.string).toArray := k1.on ((Below.refl _ _).alloc (Nat.le_refl _) _)
  have c1 : W.cell? ⟨w.heap.size + 1, 0, none⟩ = some (.slice (some ⟨w.heap.size, 0, none⟩) 6 6) := (hB2.cell (p := ⟨w.heap.size + 1, 0, none⟩) (by show w.heap.size + 1 < _; omega)).trans (by rw [k2.cell 0]; rfl)
  refine vals1_in n hn l (w.heap.size + 1) w.heap.size 6 six (by decide) Kp hKc J Jx hY W c1 (fun j hj => ?_) h0
  refine (hB2.cell (p := ⟨w.heap.size, j, none⟩) (by show w.heap.size < _; omega)).trans ?_
  rw [k3.cell j]
  have : ∀ j : Fin 6, ((six.map Value.string).toArray)[j.val]? = some (.string (six[j.val]?.getD ByteArray.empty)) := by
    intro j
    match j with
    | ⟨0, _⟩ => rfl
    | ⟨1, _⟩ => rfl
    | ⟨2, _⟩ => rfl
    | ⟨3, _⟩ => rfl
    | ⟨4, _⟩ => rfl
    | ⟨5, _⟩ => rfl
  exact this ⟨j, hj⟩
end Go.Proofs.YtgbemhehbhlgpaaGreatDoor
