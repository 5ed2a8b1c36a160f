/-
  The six categories, a rule and a set that are not there: the walk of PluralNames, with all that stands ahead of it.
-/
import Derived.Test.YtgbemhehbhlgpaaGreatDoorPlR
import Derived.Test.YtgbemhehbhlgpaaGreatDoorPlHo
import Derived.Deep.LoopGhost
import Derived.RangeFuncNested
import Derived.RangeFuncBound
import Derived.RangeFuncCalls
import Derived.RangeFuncLeaves
import Derived.Shelf.Abstract
import Derived.Shelf.RegionOpen
import Derived.OwnWalkIn
import Derived.TacticsInMore
import Derived.LoopNIn
import Derived.LoopIn
import Derived.Maps.AppendAt
import Derived.Test.YtgbemhehbhlgpaaGreatDoorPlBackW
namespace Go.Proofs.YtgbemhehbhlgpaaGreatDoor
section
open Go.RowKit Go.PlainAid

/-- The names of the categories, in their order. -/
def nameB (i : Int) : ByteArray := if i = 0 then ⟨#[122, 101, 114, 111]⟩ else if i = 1 then ⟨#[111, 110, 101]⟩ else if i = 2 then ⟨#[116, 119, 111]⟩ else if i = 3 then ⟨#[102, 101, 119]⟩ else if i = 4 then ⟨#[109, 97, 110, 121]⟩ else if i = 5 then ⟨#[111, 116, 104, 101, 114]⟩ else ⟨#[]⟩
set_option maxRecDepth 100000 in
theorem rName_any (i : Int) (w : World) : Calls Tryz.prog 13 #[.int .i64 i] w fun e w' => e = .returned (.string (nameB i)) ∧ w = w' := by
  by_cases h0 : i = 0
  · subst h0
    go_enter Tryz.func13, Tryz.ntmps13
    go_wp2_with fail
    go_ret
    exact ⟨rfl, rfl⟩
  by_cases h1 : i = 1
  · subst h1
    go_enter Tryz.func13, Tryz.ntmps13
    go_wp2_with fail
    go_ret
    exact ⟨rfl, rfl⟩
  by_cases h2 : i = 2
  · subst h2
    go_enter Tryz.func13, Tryz.ntmps13
    go_wp2_with fail
    go_ret
    exact ⟨rfl, rfl⟩
  by_cases h3 : i = 3
  · subst h3
    go_enter Tryz.func13, Tryz.ntmps13
    go_wp2_with fail
    go_ret
    exact ⟨rfl, rfl⟩
  by_cases h4 : i = 4
  · subst h4
    go_enter Tryz.func13, Tryz.ntmps13
    go_wp2_with fail
    go_ret
    exact ⟨rfl, rfl⟩
  by_cases h5 : i = 5
  · subst h5
    go_enter Tryz.func13, Tryz.ntmps13
    go_wp2_with fail
    go_ret
    exact ⟨rfl, rfl⟩
  have e0 : (i == 0) = false := by simpa using h0
  have e1 : (i == 1) = false := by simpa using h1
  have e2 : (i == 2) = false := by simpa using h2
  have e3 : (i == 3) = false := by simpa using h3
  have e4 : (i == 4) = false := by simpa using h4
  have e5 : (i == 5) = false := by simpa using h5
  have hn : nameB i = ⟨#[]⟩ := by unfold nameB; rw [if_neg h0, if_neg h1, if_neg h2, if_neg h3, if_neg h4, if_neg h5]
  rw [hn]
  clear h0 h1 h2 h3 h4 h5 hn
  go_enter Tryz.func13, Tryz.ntmps13
  go_wp2_with fail
  go_ret
  exact ⟨rfl, rfl⟩
/-- The place of a category; -1: it is none. -/
def plcF (s : ByteArray) : Nat → Nat → Int
  | 0, _ => -1
  | f + 1, i => if nameB (i : Int) = s then i else plcF s f (i + 1)
def plcB (s : ByteArray) : Int := plcF s 6 0
theorem bytes_eqb (x y : ByteArray) : (x.toList == y.toList) = decide (x = y) := by
  by_cases h : x = y
  · subst h
    simp
  · rw [decide_eq_false h]
    have hne : x.toList ≠ y.toList := fun e => h (by
      have h1 : x = ⟨x.toList.toArray⟩ := (by
        have := tl_yes (X := x) (l := x.data.toList) (by cases x; simp)
        have h2 : x.toList = x.data.toList := by simpa using this
        rw [h2])
      have h3 : y = ⟨y.toList.toArray⟩ := (by
        have := tl_yes (X := y) (l := y.data.toList) (by cases y; simp)
        have h2 : y.toList = y.data.toList := by simpa using this
        rw [h2])
      rw [h1, h3, e])
    simpa using hne
set_option maxRecDepth 100000 in
set_option maxHeartbeats 1000000 in
theorem rPlace_any (s : ByteArray) (w : World) : Calls Tryz.prog 16 #[.string s] w fun e w' => e = .returned (.int .i64 (plcB s)) ∧ w = w' := by
  go_enter Tryz.func16, Tryz.ntmps16
  go_wp2_with fail
  go_loopg [3] 7 (fun f s3 wx => ∃ i : Nat, s3 = .int .i64 (i : Int) ∧ f + i = 7 ∧ i ≤ 6 ∧ plcB s = plcF s (6 - i) i ∧ w = wx)
  case atStart => exact ⟨0, rfl, rfl, Nat.zero_le _, rfl, rfl⟩
  case round =>
    obtain ⟨i, rfl, hg, hi, hp, rfl⟩ := hrel
    have HG := Lib.hid hg; have HP := Lib.hid hp
    have hn := rName_any (i : Int) w
    have hw : IntKind.i64.wrap ((i : Int) + 1) = (i : Int) + 1 := IntWalk.i64_in _ (by omega)
    by_cases hlt : i < 6
    · have hiI : (i : Int) < 6 := by omega
      have hst : plcF s (6 - i) i = if nameB (i : Int) = s then (i : Int) else plcF s (6 - (i + 1)) (i + 1) := by
        rw [show 6 - i = (6 - (i + 1)) + 1 by omega]
        rfl
      have hq := bytes_eqb (nameB (i : Int)) s
      by_cases he : nameB (i : Int) = s
      · rw [decide_eq_true he] at hq
        have hres : plcB s = (i : Int) := by rw [hp, hst, if_pos he]
        have HR := Lib.hid hres
        generalize nameB (i : Int) = N at *
        clear hst he hres hp hg hi
        go_wp2_with fail
        refine hn.mono ?_
        rintro e w' ⟨rfl, rfl⟩
        go_wp2_with fail
        go_ret
        exact ⟨ret_int HR.out.symm, rfl⟩
      · rw [decide_eq_false he] at hq
        have hnx : plcB s = plcF s (6 - (i + 1)) (i + 1) := by rw [hp, hst, if_neg he]
        have HNX := Lib.hid hnx; have HLT := Lib.hid hlt
        generalize nameB (i : Int) = N at *
        clear hst he hnx hp hg hi hlt
        go_wp2_with fail
        refine hn.mono ?_
        rintro e w' ⟨rfl, rfl⟩
        go_wp2_with fail
        go_roundg (6 - i)
        case rel => exact ⟨i + 1, by simp, by have := HG.out; have := HLT.out; omega, HLT.out, HNX.out, rfl⟩
        case measure => have := HG.out; have := HLT.out; omega
    · have hiI : ¬ (i : Int) < 6 := by omega
      have hres : plcB s = -1 := by
        rw [hp, show 6 - i = 0 by omega]
        rfl
      have HR := Lib.hid hres
      clear hres hp hg hi hlt hn
      go_wp2_with fail
      go_ret
      exact ⟨ret_int HR.out.symm, rfl⟩
end

section
open Go.RowKit Go.Shelf Go.PlainAid
attribute [local go_sem] Oper.semAt_some

/-- Below N, but for the block x, the world w' is as w was. -/
structure KeepX (N x : Nat) (w w' : World) : Prop where
  os : w'.os = w.os
  tape : w'.tape = w.tape
  output : w'.output = w.output
  size : w.heap.size ≤ w'.heap.size
  block : ∀ k, k < N → k ≠ x → w'.heap[k]? = w.heap[k]?
theorem KeepX.refl (N x : Nat) (w : World) : KeepX N x w w := ⟨rfl, rfl, rfl, Nat.le_refl _, fun _ _ _ => rfl⟩
theorem KeepX.trans {N x : Nat} {a b c : World} (h : KeepX N x a b) (k : KeepX N x b c) : KeepX N x a c :=
  ⟨k.os.trans h.os, k.tape.trans h.tape, k.output.trans h.output, Nat.le_trans h.size k.size, fun i hi hx => (k.block i hi hx).trans (h.block i hi hx)⟩
theorem KeepX.of {N x M : Nat} {a b : World} (h : Below M a b) (hM : N ≤ M) : KeepX N x a b := ⟨h.os, h.tape, h.output, h.size, fun k hk _ => h.block k (by omega)⟩
theorem KeepX.below {N x M : Nat} {a b : World} (h : KeepX N x a b) (hN : M ≤ N) (hx : M ≤ x) : Below M a b := ⟨h.os, h.tape, h.output, h.size, fun k hk => h.block k (by omega) (by omega)⟩
theorem KeepX.setCell {N x : Nat} {a w : World} (h : KeepX N x a w) (v : Value) : KeepX N x a (w.setCell ⟨x, 0, none⟩ v) :=
  h.trans ⟨rfl, rfl, rfl, by simp [World.setCell], fun k _ hx => Below.heap_setCell _ _ _ _ hx⟩
theorem KeepX.grown {N x : Nat} {a w w' : World} {row : Option Nat} (h : KeepX N x a w) (hg : w.grownBy w' row) (hN : N ≤ w.heap.size) (hr : ∀ k, row = some k → N ≤ k) : KeepX N x a w' :=
  h.trans (KeepX.of ((Below.refl N w).grown hg hN hr) (Nat.le_refl _))
theorem KeepX.cell {N x : Nat} {w w' : World} (h : KeepX N x w w') {k j : Nat} (hk : k < N) (hx : k ≠ x) : w'.cell? ⟨k, j, none⟩ = w.cell? ⟨k, j, none⟩ := World.cell?_of_block (w := w) (h.block k hk hx)
theorem KeepX.boxed {N x : Nat} {w w' : World} (h : KeepX N x w w') {k : Nat} {t : TypeId} {v : Value} (hb : Boxed w k t v) (hk : k < N) (hx : k ≠ x) : Boxed w' k t v := (h.block k hk hx).trans hb
theorem keepX_b {N x : Nat} {w : World} (hN : N ≤ w.heap.size) (W : World) (l : Nat) (o o' : Obj) (hl : w.heap.size ≤ l) (h : W.heap[l]? = some o) (hc : o.isCells = false) (hw : o.isWalk = false) : KeepX N x W (W.putObj l o') :=
  KeepX.of (belowK_b hN W l o o' hl h hc hw) (Nat.le_refl _)
theorem ownFrom_keepX {β : Type} {N x B : Nat} {w₀ : World} (hn : N ≤ w₀.heap.size) (hB : N ≤ B) : OwnFrom B (fun (_ : β) W => KeepX N x w₀ W) :=
  fun _ _ _ _ hs hg hr => hs.grown hg (Nat.le_trans hn hs.size) (fun k e => Nat.le_trans hB (hr k e).1)

/-- What has come when k rounds are over. -/
def upS (zs : List ByteArray) (k : Nat) : List ByteArray := (List.range k).map (fun j => zs[j]?.getD ByteArray.empty)
theorem upS_succ (zs : List ByteArray) (k : Nat) : upS zs (k + 1) = upS zs k ++ [zs[k]?.getD ByteArray.empty] := by simp [upS, List.range_succ]
theorem upS_length (zs : List ByteArray) (k : Nat) : (upS zs k).length = k := by simp [upS]
theorem upS_take (zs : List ByteArray) {k : Nat} (hk : k ≤ zs.length) : upS zs k = zs.take k := by
  apply List.ext_getElem
  · simp [upS, hk]
  · intro i h1 h2
    have : i < zs.length := by simp [upS] at h1; omega
    simp [upS, this]

set_option maxRecDepth 100000 in
set_option maxHeartbeats 2000000 in
theorem vals1_in (n : Nat) (hn : 1 ≤ n) (l Bs b cap : Nat) (zs : List ByteArray) (hz : zs.length ≤ 1000) (Kp : World → World → Prop) (hKc : ∀ A B j, Kp A B → B.cell? ⟨b, j, none⟩ = A.cell? ⟨b, j, none⟩) (J Jx : List ByteArray → World → Prop)
    (hY : ∀ pre x W, J pre W → pre.length < zs.length → YieldAt Fence.wide (n - 1) Tryz.prog l #[.string x] W fun e W' =>
      (e = .returned (.bool true) ∧ J (pre ++ [x]) W' ∧ Kp W W') ∨ (e = .returned (.bool false) ∧ Jx (pre ++ [x]) W'))
    (W : World) (hBs : W.cell? ⟨Bs, 0, none⟩ = some (.slice (some ⟨b, 0, none⟩) zs.length cap)) (hc : ∀ j, j < zs.length → W.cell? ⟨b, j, none⟩ = some (.string (zs[j]?.getD ByteArray.empty))) (h0 : J [] W) :
    CallsIn Fence.wide n Tryz.prog 51 #[.func (.yield l) #[] #[], .pointer (some ⟨Bs, 0, none⟩)] W fun e W' => (∃ v, e = .returned v) ∧
      ((∃ ys, ys = zs ∧ J ys W') ∨ (∃ pre, pre <+: zs ∧ Jx pre W')) := by
  refine callsIn_of_wp Tryz.func51 rfl trivial ?_ rfl
  simp only [Tryz.ntmps51, List.size_toArray, List.length_cons, List.length_nil, Nat.reduceAdd, Nat.reduceSub, Array.replicate_succ, Array.replicate_zero, List.push_toArray, List.append_toArray, List.nil_append, List.cons_append]
  gi_wp2
  gi_loopw [7] (fun i wr => ∃ k : Nat, k ≤ zs.length ∧ i = .int .i64 k ∧ J (upS zs k) wr ∧ ∀ j, wr.cell? ⟨b, j, none⟩ = W.cell? ⟨b, j, none⟩)
    (fun i _ => zs.length - (intOf i).toNat)
  case atStart => exact ⟨0, Nat.zero_le _, rfl, h0, fun _ => rfl⟩
  case round =>
    obtain ⟨k, hk, rfl, hJs, hnx⟩ := hrel
    have hcx : k < zs.length → wr.cell? ⟨b, k, none⟩ = some (.string (zs[k]?.getD ByteArray.empty)) := fun h => (hnx k).trans (hc k h)
    by_cases hlt : k < zs.length
    · obtain ⟨fn, tmps, assign, body, hy, hR⟩ := hY _ (zs[k]?.getD ByteArray.empty) wr hJs (by rw [upS_length]; exact hlt)
      have hcx' := hcx hlt
      have hst := upS_succ zs k
      have HST := Lib.hid hst
      generalize zs[k]?.getD ByteArray.empty = Z at *
      have HNX := Lib.hid hnx
      clear hst hcx hnx
      gi_wp2
      refine hR.mono ?_
      rintro e W3 (⟨rfl, hJ3, hk3⟩ | ⟨rfl, hJx3⟩)
      · gi_wp2
        go_roundw
        case rel => exact ⟨k + 1, by omega, by simp, by rw [HST.out]; exact hJ3, fun j => (hKc _ _ j hk3).trans (HNX.out j)⟩
        case measure => simp [intOf]; omega
      · gi_wp2
        refine bodyPost_ret (results_none rfl _ _ _) rfl ?_
        exact ⟨⟨_, rfl⟩, .inr ⟨_, by rw [← HST.out, upS_take zs (by omega)]; exact List.take_prefix _ _, hJx3⟩⟩
    · obtain rfl : k = zs.length := by omega
      clear hcx hnx
      gi_wp2
      go_end0
      exact ⟨⟨_, rfl⟩, .inl ⟨_, by rw [upS_take zs (Nat.le_refl _), List.take_length], hJs⟩⟩

theorem values_any (a : Option Addr) (len cap : Nat) (w : World) :
    Calls Tryz.prog 31 #[.slice a len cap] w fun e w' => e = .returned (.func (.func 51) #[] #[.pointer (some ⟨w.heap.size, 0, none⟩)]) ∧ w' = w.alloc (.cells #[.slice a len cap] 31) := by
  go_enter Tryz.func31, Tryz.ntmps31
  go_wp2_with fail
  go_ret
  exact ⟨rfl, rfl⟩
/-- The world behind plural.Categories: the six in a block, the slice in a box. -/
def catW (w : World) : World := (w.alloc (.cells (six.map Value.string).toArray 9)).alloc (.cells #[.slice (some ⟨w.heap.size, 0, none⟩) 6 6] 31)
theorem cats_any (w : World) (hT : SpTab w) :
    Calls Tryz.prog 12 #[] w fun e w' => e = .returned (.func (.func 51) #[] #[.pointer (some ⟨w.heap.size + 1, 0, none⟩)]) ∧ w' = catW w := by
  have hf := fields_six w hT
  have hv := values_any (some ⟨w.heap.size, 0, none⟩) 6 6 (w.alloc (.cells (six.map Value.string).toArray 9))
  have hz : (w.alloc (.cells (six.map Value.string).toArray 9)).heap.size = w.heap.size + 1 := by simp
  have hC : catW w = (w.alloc (.cells (six.map Value.string).toArray 9)).alloc (.cells #[.slice (some ⟨w.heap.size, 0, none⟩) 6 6] 31) := rfl
  have HC := Lib.hid hC
  rw [hz] at hv
  generalize w.alloc (.cells (six.map Value.string).toArray 9) = w1 at *
  unfold namesB at hf
  clear hC
  go_enter Tryz.func12, Tryz.ntmps12
  go_wp2_with fail
  refine hf.mono ?_
  rintro e w' ⟨rfl, rfl⟩
  go_wp2_with fail
  refine hv.mono ?_
  rintro e w'' ⟨rfl, rfl⟩
  go_wp2_with fail
  go_ret
  exact ⟨rfl, HC.out.symm⟩
theorem catW_below (w : World) : Below w.heap.size w (catW w) := ((Below.refl w.heap.size w).alloc (Nat.le_refl _) _).alloc (by simp) _
theorem catW_size (w : World) : (catW w).heap.size = w.heap.size + 2 := by unfold catW; simp
/-- What plural.Categories hands back has its contract, from the world behind it on. -/
theorem cats_stops (n : Nat) (hn : 1 ≤ n) (w W0 : World) (hB : Below (w.heap.size + 2) (catW w) W0) (Kp : World → World → Prop) (hKc : ∀ A B j, Kp A B → B.cell? ⟨w.heap.size, j, none⟩ = A.cell? ⟨w.heap.size, j, none⟩) :
    SeqStopsK Fence.wide n Tryz.prog 51 #[.pointer (some ⟨w.heap.size + 1, 0, none⟩)] (fun x : ByteArray => #[Value.string x]) Kp (fun ys => ys = six) (fun pre => pre <+: six) 6 W0 := fun l J Jx W hW _ _ hY h0 => by
  have hB2 : Below (w.heap.size + 2) (catW w) W := hB.trans (hW.mono (by have := hB.size; rw [catW_size] at this; exact this))
  have k1 : Blk (w.alloc (.cells (six.map Value.string).toArray 9)) w.heap.size (six.map Value.string).toArray := Blk.new w (six.map Value.string).toArray 9
  have k2 : Blk (catW w) (w.heap.size + 1) #[.slice (some ⟨w.heap.size, 0, none⟩) 6 6] := by
    have := Blk.new (w.alloc (.cells (six.map Value.string).toArray 9)) #[.slice (some ⟨w.heap.size, 0, none⟩) 6 6] 31
    rw [World.size_alloc] at this
    exact this
  have k3 : Blk (catW w) w.heap.size (six.map Value.string).toArray := k1.on ((Below.refl _ _).alloc (Nat.le_refl _) _)
  have c1 : W.cell? ⟨w.heap.size + 1, 0, none⟩ = some (.slice (some ⟨w.heap.size, 0, none⟩) 6 6) := (hB2.cell (p := ⟨w.heap.size + 1, 0, none⟩) (by show w.heap.size + 1 < _; omega)).trans (by rw [k2.cell 0]; rfl)
  refine vals1_in n hn l (w.heap.size + 1) w.heap.size 6 six (by decide) Kp hKc J Jx hY W c1 (fun j hj => ?_) h0
  refine (hB2.cell (p := ⟨w.heap.size, j, none⟩) (by show w.heap.size < _; omega)).trans ?_
  rw [k3.cell j]
  have : ∀ j : Fin 6, ((six.map Value.string).toArray)[j.val]? = some (.string (six[j.val]?.getD ByteArray.empty)) := by
    intro j
    match j with
    | ⟨0, _⟩ => rfl
    | ⟨1, _⟩ => rfl
    | ⟨2, _⟩ => rfl
    | ⟨3, _⟩ => rfl
    | ⟨4, _⟩ => rfl
    | ⟨5, _⟩ => rfl
  exact this ⟨j, hj⟩
end

section
open Go.RowKit Go.Shelf Go.PlainAid
attribute [local go_sem] Oper.semAt_some

/-- The law of a range over a function, the temporaries behind the assignment told by what they were. -/
theorem rangeFU {F : Fence} {n : Nat} {P : Program} {α : Type} {g : Operand} {ps : Array Tmp} {assign body : Code} {Q : Exit → Act → World → Prop} {a : Act} {w : World}
    (hro : F.round = none) (h1 : 1 ≤ n) {gf : Nat} {lb : Array Value} (hg : a.eval g = .func (.func gf) #[] lb) (hFg : F.fn gf) (eg : ∀ args w, (callFunc gf args).run P w = .ok (.enter gf args) w)
    {encs : α → Array Value} {Kp : World → World → Prop} {S Sp : List α → Prop} {N : Nat} {w0 : World} (hseq : SeqStopsK F (n - 1) P gf lb encs Kp S Sp N w0)
    (hKt : ∀ {A B C : World}, Kp A B → Kp B C → Kp A C) (hKb : ∀ (W : World) (l : Nat) (o o' : Obj), w.heap.size ≤ l → W.heap[l]? = some o → o.isCells = false → o.isWalk = false → Kp W (W.putObj l o')) (hb0 : Below w0.heap.size w0 w) (hps : ∀ x, (encs x).size = ps.size)
    (I : List α → World → Prop) (Ix : Code → List α → World → Prop) (hI : OwnFrom w.heap.size I) (hIx : ∀ c, OwnFrom w.heap.size (Ix c)) (h0 : I [] w) (upd : α → Array Value → Array Value)
    (hassign : ∀ (l : Nat) (x : α) (W : World) (K : Act → World → Prop), K { tmps := upd x ((ps.zip (encs x)).foldl (fun t (p, v) => t.setIfInBounds p v) a.tmps), defers := [] } W →
      assign.wpIn (F.inRound l) (n - 1 - 1) P (Exit.then K (fun _ _ _ => False)) { tmps := (ps.zip (encs x)).foldl (fun t (p, v) => t.setIfInBounds p v) a.tmps, defers := [] } W)
    (hbody : ∀ (l : Nat) (pre : List α) (x : α) (W : World), I pre W → pre.length < N → body.wpIn (F.inRound l) (n - 1 - 1) P (ownPostK Kp I Ix (pre ++ [x]) W) { tmps := upd x ((ps.zip (encs x)).foldl (fun t (p, v) => t.setIfInBounds p v) a.tmps), defers := [] } W)
    (hdone : ∀ (D : Nat) (xs : List α) (W : World), w.heap.size ≤ D → S xs → I xs W → W.heap[D]? = some (.deferred (some [])) → Q .normal { a with defers := { target := .collected D, args := #[] } :: a.defers } W)
    (hstop : ∀ (D : Nat) (c : Code) (pre : List α) (W : World), w.heap.size ≤ D → Sp pre → Ix c pre W → W.heap[D]? = some (.deferred (some [])) → c.wpIn F n P Q { a with defers := { target := .collected D, args := #[] } :: a.defers } W) :
    (Code.rangeFunc g ps assign body).wpIn F n P Q a w :=
  wpIn_rangeFunc_ownF hro h1 hg hFg eg hseq hKt hKb hb0 hps I Ix hI hIx h0 _ hassign hbody hdone hstop
theorem boxed_on {W W' : World} {B : Nat} {t : TypeId} {v : Value} (h : Boxed W B t v) (hB : Below W.heap.size W W') : Boxed W' B t v := (hB.block B h.lt).trans h
theorem prefix_snoc {α : Type} {pre xs : List α} {x : α} (h : pre <+: xs) (hl : pre.length < xs.length) : pre ++ [x] <+: xs ↔ xs[pre.length] = x := by
  obtain ⟨r, rfl⟩ := h
  cases r with
  | nil => simp at hl
  | cons y r => simp; exact eq_comm

set_option maxRecDepth 100000 in
theorem print_nil (w : World) : Calls Tryz.prog 18 #[.pointer none] w fun e w' => e = .returned (.string ⟨#[]⟩) ∧ w = w' := by
  go_enter Tryz.func18, Tryz.ntmps18
  go_wp2_with fail
  go_ret
  exact ⟨rfl, rfl⟩
set_option maxRecDepth 100000 in
set_option maxHeartbeats 2000000 in
theorem holds_nil (neg : Bool) (ds : ByteArray) (sc : Int) (w : World) :
    Calls Tryz.prog 17 #[.pointer none, .agg #[.bool neg, .string ds, .int .i64 sc]] w fun e w' => e = .returned (.bool false) ∧ Below w.heap.size w w' := by
  have hB0 := (Below.refl w.heap.size w).alloc (Nat.le_refl _) (.cells #[.bool neg, .string ds, .int .i64 sc] 23)
  cases hr : rightB neg ds sc with
  | false =>
    have hop := operands_no neg ds sc (w.alloc (.cells #[.bool neg, .string ds, .int .i64 sc] 23)) hr
    clear hr
    go_enter Tryz.func17, Tryz.ntmps17
    go_wp2_with fail
    refine hop.mono ?_
    rintro e w1 ⟨rfl, hB1⟩
    have hB2 := hB0.trans (hB1.mono hB0.size)
    go_upto_region 2 with fail
    have hB3 := fun o => (hB2.alloc hB2.size o)
    go_quiet (fail)
    go_wp2_with fail
    go_ret
    exact ⟨rfl, bdN0 (hB3 _) nq⟩
  | true =>
    have h0 : 0 ≤ sc := (of_decide_eq_true hr).2.2.1
    obtain ⟨k, rfl⟩ : ∃ k : Nat, sc = k := ⟨sc.toNat, by omega⟩
    have hop := operands_yes neg ds k (w.alloc (.cells #[.bool neg, .string ds, .int .i64 k] 23)) hr
    rw [opsA_eq hr] at hop
    generalize digs (dval ds / 10 ^ k) = D1 at *
    generalize digs (dval ds % 10 ^ k) = D2 at *
    generalize digs (opT' ds k) = D3 at *
    generalize opW ds k = wv at *
    clear hr h0
    go_enter Tryz.func17, Tryz.ntmps17
    go_wp2_with fail
    refine hop.mono ?_
    rintro e w1 ⟨rfl, hB1⟩
    have hB2 := hB0.trans (hB1.mono hB0.size)
    go_upto_region 2 with fail
    have hB3 := fun o => (hB2.alloc hB2.size o)
    go_quiet (fail)
    go_wp2_with fail
    go_ret
    exact ⟨rfl, bdN0 (hB3 _) nq⟩
def otherB : ByteArray := ⟨#[111, 116, 104, 101, 114]⟩
set_option maxRecDepth 100000 in
set_option maxHeartbeats 2000000 in
theorem cat_nil (neg : Bool) (ds : ByteArray) (sc : Int) (w : World) :
    Calls Tryz.prog 19 #[.pointer none, .agg #[.bool neg, .string ds, .int .i64 sc]] w fun e w' => e = .returned (.string otherB) ∧ Below w.heap.size w w' := by
  have hB1 := ((Below.refl w.heap.size w).alloc (Nat.le_refl _) (.cells #[.pointer none] 30)).alloc (by simp) (.cells #[.bool neg, .string ds, .int .i64 sc] 23)
  have hz : ((w.alloc (.cells #[.pointer none] 30)).alloc (.cells #[.bool neg, .string ds, .int .i64 sc] 23)).heap.size = w.heap.size + 1 + 1 := by simp
  generalize hw1 : (w.alloc (.cells #[.pointer none] 30)).alloc (.cells #[.bool neg, .string ds, .int .i64 sc] 23) = w1 at *
  have bx := Boxed.new w1 9 (.string otherB)
  rw [hz] at bx
  have bc := bx.cell
  have hB := hB1.alloc (by rw [hz]; omega) (.cells #[.string otherB] 9)
  unfold otherB at *
  have HW1 := Lib.hid hw1
  clear hw1 bx hB1 hz
  go_enter Tryz.func19, Tryz.ntmps19
  go_wp2_with fail
  rw [HW1.out]
  refine bodyPost_ret (v := .string ⟨#[111, 116, 104, 101, 114]⟩) (by simp [results, Tryz.results19, go_sem, bc]) rfl ⟨rfl, hB⟩
end

section
open Go.RowKit Go.Shelf Go.PlainAid
attribute [local go_sem] Oper.semAt_some

theorem ownsRow_base {W : World} {N M : Nat} {e : TypeId} {size : Nat} {v : Value} {k : Nat} {xs : List Value} (h : W.ownsRow N e size v k xs) (hM : M ≤ N) : W.ownsRow M e size v k xs := by
  refine ⟨h.1, ?_⟩
  rcases h.2 with h2 | ⟨g, cap, cur, hv, hg, r⟩
  · exact .inl h2
  · exact .inr ⟨g, cap, cur, hv, Nat.le_trans hM hg, r⟩
/-- Behind an append to a boxed slice whose row lies at N or behind it: what is kept below N. -/
theorem appendedX {W w1 : World} {N B : Nat} {t e : TypeId} {size : Nat} {v v' : Value} {k m : Nat} {xs ys : List Value} {tmp : Obj}
    (hv : Boxed W B t v) (hte : t ≠ e) (hrow : W.ownsRow N e size v k xs) (hN : N ≤ W.heap.size)
    (hown' : w1.ownsRow N e size v' m ys) (hgrow : (W.alloc tmp).grownBy w1 v.ownBlock) :
    Boxed w1 B t v ∧ Boxed (w1.setCell ⟨B, 0, none⟩ v') B t v' ∧ (w1.setCell ⟨B, 0, none⟩ v').ownsRow N e size v' m ys ∧ KeepsOthers W (w1.setCell ⟨B, 0, none⟩ v') ∧ KeepX N B W (w1.setCell ⟨B, 0, none⟩ v') := by
  obtain ⟨h1, h2, _, h4, _⟩ := hv.appended hte (ownsRow_base hrow (Nat.zero_le N)) (Nat.zero_le _) (Nat.zero_le _) (ownsRow_base hown' (Nat.zero_le N)) hgrow
  refine ⟨h1, h2, hown'.kept (grownBy_setCell' w1 B v') (.inr (h1.not_row hte hown').symm), h4, ?_⟩
  refine (((KeepX.refl N B W).grown (World.grownBy_alloc W tmp none) hN (by simp)).grown hgrow (by simp; omega) (fun j ej => ?_)).setCell v'
  rcases hrow.2 with ⟨rfl, _⟩ | ⟨g, cap, cur, rfl, hb, _, _⟩
  · simp [Value.ownBlock] at ej
  · have : g = j := by simpa [Value.ownBlock] using ej
    omega
/-- Of what has come, what is the word other. -/
def oth (xs : List ByteArray) : List ByteArray := xs.filter fun x => decide (x = otherB)
theorem oth_hit (pre : List ByteArray) {x : ByteArray} (h : x = otherB) : oth (pre ++ [x]) = oth pre ++ [x] := by simp [oth, h]
theorem oth_miss (pre : List ByteArray) {x : ByteArray} (h : x ≠ otherB) : oth (pre ++ [x]) = oth pre := by simp [oth, h]
theorem oth_six : oth six = [otherB] := by decide +kernel
theorem infoS : (Tryz.prog.info? 9).map (fun i => (i.zero, i.size, i.bytes)) = some (some (.string ⟨#[]⟩), 1, 16) := by kernel_rfl

set_option maxRecDepth 100000 in
set_option maxHeartbeats 4000000 in
theorem setCats_nil (w : World) (hT : ∀ W, Below w.heap.size w W → SpTab W) :
    Calls Tryz.prog 14 #[.pointer none] w fun e w' => (∃ g cap, e = .returned (.slice (some ⟨g, 0, none⟩) 1 cap) ∧ w'.cell? ⟨g, 0, none⟩ = some (.string otherB) ∧ g < w'.heap.size) ∧ Below w.heap.size w w' := by
  obtain ⟨i0, hi, hz0, hz1, hz2⟩ := info_parts infoS
  have hA0 := ((Below.refl w.heap.size w).alloc (Nat.le_refl _) (.cells #[.pointer none] 30)).alloc (by simp) (.cells #[.slice none 0 0] 31)
  have bL0 := Boxed.new (w.alloc (.cells #[.pointer none] 30)) 31 (.slice none 0 0)
  have bS0 := (Boxed.new w 30 (.pointer none)).alloc (.cells #[.slice none 0 0] 31)
  have z0 : ((w.alloc (.cells #[.pointer none] 30)).alloc (.cells #[.slice none 0 0] 31)).heap.size = w.heap.size + 2 := by simp
  rw [World.size_alloc] at bL0
  generalize hw0 : (w.alloc (.cells #[.pointer none] 30)).alloc (.cells #[.slice none 0 0] 31) = w0 at *
  have HW0 := Lib.hid hw0
  have hca := cats_any w0 (hT _ hA0)
  clear hw0
  refine (callsIn_wide (n := 3)).1 ?_
  refine callsIn_of_wp_marks Tryz.func14 rfl trivial ?_ rfl
  simp only [Tryz.ntmps14, List.size_toArray, List.length_cons, List.length_nil, Nat.reduceAdd, Nat.reduceSub, Array.replicate_succ, Array.replicate_zero, List.push_toArray, List.append_toArray, List.nil_append, List.cons_append]
  gi_wp2_with fail
  rw [HW0.out]
  refine ⟨trivial, ?_⟩
  refine (callsIn_wide.2 hca).mono ?_
  rintro e w1 ⟨rfl, rfl⟩
  have bL := boxed_on bL0 (catW_below w0)
  have bS := boxed_on bS0 (catW_below w0)
  have zc := catW_size w0
  have hAc := hA0.trans ((catW_below w0).mono (by omega))
  have hst := cats_stops (3 - 1) (by decide) w0 (catW w0) (Below.refl _ _) (KeepX (w.heap.size + 4) (w.heap.size + 1)) (fun A B j h => h.cell (by omega) (by omega))
  rw [z0] at hst zc
  clear bL0 bS0 hca
  gi_wp2_with fail
  refine rangeFU rfl (by decide) (gf := 51) (lb := #[.pointer (some ⟨w.heap.size + 2 + 1, 0, none⟩)]) rfl trivial (enters_of Tryz.func51 (by kernel_rfl) rfl)
    hst KeepX.trans (keepX_b (by omega)) (Below.refl _ _) (fun _ => rfl)
    (fun pre W => (∃ v, Boxed W (w.heap.size + 1) 31 v ∧ W.ownsRow (w.heap.size + 4) 9 1 v (oth pre).length ((oth pre).map Value.string) ∧ True) ∧ KeepX (w.heap.size + 4) (w.heap.size + 1) (catW w0) W)
    (fun _ _ _ => False)
    (OwnFrom.and (Own.from (holdsRow_own (w.heap.size + 4) (w.heap.size + 1) 31 9 1 (fun pre => (oth pre).length) (fun pre => (oth pre).map Value.string) (fun _ _ => True)) _) (ownFrom_keepX (by omega) (by omega)))
    (fun _ _ _ _ _ hs _ _ => hs)
    ⟨⟨_, bL, World.ownsRow_nil _ _ _ _, trivial⟩, KeepX.refl _ _ _⟩
    (fun x t => t.setIfInBounds 4 (.string x)) ?_ ?_ ?_ ?_
  · intro l x W K hK
    gi_wp2
    simpa using hK
  · rintro l pre x W ⟨⟨v, hv, hrow, _⟩, hB⟩ hlt
    have hc := hv.cell
    have cS := (hB.boxed bS (by omega) (by omega)).cell
    have hpl : (oth pre).length ≤ pre.length := List.length_filter_le _ _
    have hsz := hB.size
    by_cases hx : x = otherB
    · have e1 : (x.toList == [111, 116, 104, 101, 114]) = true := tl_yes hx
      have HX := Lib.hid hx
      clear hx
      gi_wp2_with (gi_at_builtin; refine wpListIn_append_own _ rfl _ _ 31 rfl (w.heap.size + 4) 9 i0 (.string ⟨#[]⟩) 1 16 Tryz.underlying31 hi hz0 hz1 hz2 rfl (by decide) _ _ _ rfl (hrow.alloc _) ⟨W.heap.size, 0, none⟩ 1 1 [.string x] rfl rfl (cell_one_new _ _ _) (by simp [Value.oneCell']) (by unfold maxLen; omega) (by omega) (by simp; omega) ?_; intro v' w1 hown' hgrow _; obtain ⟨g', cap', rfl⟩ := ownsRow_succ hown'; obtain ⟨hv1, hv2, hr2, hk2, hb2⟩ := appendedX hv (by decide) hrow (by omega) hown' hgrow; have hc1 := hv1.cell; have hf1 := hv1.frozen)
      exact ⟨hk2, hb2, ⟨_, hv2, by rw [oth_hit pre HX.out]; simpa using hr2, trivial⟩, hB.trans hb2⟩
    · have e1 : (x.toList == [111, 116, 104, 101, 114]) = false := tl_no hx
      have HX := Lib.hid hx
      clear hx
      gi_wp2
      exact ⟨KeepsOthers.refl _, KeepX.refl _ _ _, ⟨v, hv, by rw [oth_miss pre HX.out]; exact hrow, trivial⟩, hB⟩
  · rintro D ys W hD rfl ⟨⟨v, hv, hrow, _⟩, hB⟩ hK
    have hc := hv.cell
    rw [oth_six] at hrow
    obtain ⟨g, cap, rfl⟩ := ownsRow_succ hrow
    gi_wp2
    refine ⟨by simp, .inl ⟨_, _, rfl, run_takeDeferred hK, ?_⟩⟩
    have hr2 := ownsRow_putObj hrow (.deferred none) hK rfl
    have h1 : (W.putObj D (.deferred none)).cell? ⟨g, 0, none⟩ = some (.string otherB) := by
      rw [World.ownsRow.cellAt hr2 0 (by decide)]
      rfl
    have hgl : g < (W.putObj D (.deferred none)).heap.size := by
      rcases hr2.2 with ⟨h, _⟩ | ⟨g2, cap2, cur, h, _, hh, _⟩
      · cases h
      · obtain rfl : g = g2 := by simpa using (show Value.slice (some ⟨g, 0, none⟩) _ _ = _ from h) |> fun h => (Value.slice.inj h).1
        exact (Array.getElem?_eq_some_iff.1 hh).1
    exact ⟨_, results_tmp rfl _ _ _, ⟨g, cap, rfl, h1, hgl⟩, (hAc.trans (hB.below (by omega) (by omega))).trans (belowK_b (w := catW w0) (by omega) W D _ _ hD hK rfl rfl)⟩
  · rintro D c pre W _ _ h _
    exact h.elim
end

section
open Go.RowKit Go.Shelf Go.PlainAid
attribute [local go_sem] Oper.semAt_some

/-- A function that leaves with nothing but marks among its deferred calls. -/
theorem leaves_marks {F : Fence} {n : Nat} {P : Program} {fn : Func} {tmps : Array Value} {R : Ending → World → Prop} {w0 : World} :
    ∀ (Ds : List Nat) (w : World), (∀ D ∈ Ds, w0.heap.size ≤ D ∧ w.heap[D]? = some (.deferred (some []))) → Ds.Nodup →
      (∀ w', Below w0.heap.size w w' → (∀ k, k ∉ Ds → w'.heap[k]? = w.heap[k]?) → LeavesIn F n P fn tmps R [] .returning w') →
      LeavesInM F n P fn tmps R (Ds.map fun D => { target := .collected D, args := #[] }) .returning w
  | [], w, _, _, h => h w (Below.refl _ _) (fun _ _ => rfl)
  | D :: Ds, w, hD, hN, h => by
    obtain ⟨hlt, hd⟩ := hD D (by simp)
    have hn := List.nodup_cons.1 hN
    have hb1 : Below w0.heap.size w (w.putObj D (.deferred none)) := belowK_b (w := w0) (Nat.le_refl _) w D _ _ hlt hd rfl rfl
    refine ⟨by simp, .inl ⟨_, _, rfl, run_takeDeferred hd, leaves_marks Ds _ (fun E hE => ⟨(hD E (by simp [hE])).1, ?_⟩) hn.2 (fun w' hb hk => h w' (hb1.trans hb) (fun k hk' => ?_))⟩⟩
    · rw [World.putObj_heap_other (by rintro rfl; exact hn.1 hE)]
      exact (hD E (by simp [hE])).2
    · rw [hk k (fun h' => hk' (by simp [h'])), World.putObj_heap_other (by rintro rfl; exact hk' (by simp))]
theorem six_name (i : Nat) (h : i < six.length) : six[i] = nameB (i : Int) := by
  have : ∀ i : Fin 6, six[i.val]? = some (nameB (i.val : Int)) := by decide +kernel
  have h2 := this ⟨i, h⟩
  rw [List.getElem?_eq_getElem h] at h2
  exact Option.some.inj h2
theorem is_place (s : ByteArray) : (Lib.containsS six s = true ∧ decide (0 ≤ plcB s) = true) ∨ (Lib.containsS six s = false ∧ decide (0 ≤ plcB s) = false) := by
  have hp : ∀ f i, (0 ≤ plcF s f i) ↔ ∃ k, i ≤ k ∧ k < i + f ∧ nameB (k : Int) = s := by
    intro f
    induction f with
    | zero =>
      intro i
      constructor
      · intro h
        exact absurd h (by show ¬ (0 : Int) ≤ -1; decide)
      · rintro ⟨k, h1, h2, _⟩
        omega
    | succ f ih =>
      intro i
      unfold plcF
      by_cases h : nameB (i : Int) = s
      · rw [if_pos h]
        exact ⟨fun _ => ⟨i, Nat.le_refl _, by omega, h⟩, fun _ => by omega⟩
      · rw [if_neg h, ih (i + 1)]
        constructor
        · rintro ⟨k, h1, h2, h3⟩
          exact ⟨k, by omega, by omega, h3⟩
        · rintro ⟨k, h1, h2, h3⟩
          refine ⟨k, ?_, by omega, h3⟩
          rcases Nat.eq_or_lt_of_le h1 with rfl | h4
          · exact absurd h3 h
          · exact h4
  have hm : s ∈ six ↔ 0 ≤ plcB s := by
    unfold plcB
    rw [hp 6 0]
    constructor
    · intro h
      obtain ⟨i, hi, he⟩ := List.getElem_of_mem h
      exact ⟨i, Nat.zero_le _, by have : six.length = 6 := rfl; omega, by rw [← six_name i hi]; exact he⟩
    · rintro ⟨k, _, h2, h3⟩
      have hk : k < six.length := by show k < 6; omega
      rw [← h3, ← six_name k hk]
      exact List.getElem_mem hk
  cases hc : Lib.containsS six s with
  | true => exact .inl ⟨rfl, decide_eq_true (hm.1 ((Lib.containsS_iff six s).1 hc))⟩
  | false => exact .inr ⟨rfl, decide_eq_false fun h => by rw [(Lib.containsS_iff six s).2 (hm.2 h)] at hc; cases hc⟩
theorem cats_not_nil (b : Nat) (W : World) : (binOp .eql 26 (.func (.func 51) #[] #[.pointer (some ⟨b, 0, none⟩)]) Value.nilFunc).run Tryz.prog W = .ok (.bool false) W := by
  rw [show binOp .eql 26 (.func (.func 51) #[] #[.pointer (some ⟨b, 0, none⟩)]) Value.nilFunc = (do pure (.bool (← Op.equalIn (9999 + 1) 26 (.func (.func 51) #[] #[.pointer (some ⟨b, 0, none⟩)]) Value.nilFunc))) from rfl]
  rw [Op.equalIn]
  simp [go_sem]

set_option maxRecDepth 100000 in
set_option maxHeartbeats 4000000 in
theorem pluralNames_walk (s : ByteArray) (m : Int) (neg : Bool) (ds : ByteArray) (sc : Int) (w : World) (_ : -9223372036854775808 ≤ m) (_ : m ≤ 9223372036854775807) (_ : s.size ≤ 140737488351232) (hw : PW w) :
    Calls Tryz.prog 3 #[.string s, .int .i64 m, .agg #[.bool neg, .string ds, .int .i64 sc]] w fun e w' => e = .returned (.bool true) ∧ Below w.heap.size w w' := by
  have hA0 := (((Below.refl w.heap.size w).alloc (Nat.le_refl _) (.cells #[.int .i64 m] 3)).alloc (by simp) (.cells #[.bool neg, .string ds, .int .i64 sc] 23)).alloc (by simp; omega) (.cells #[.bool false] 4)
  have b4 := ((Boxed.new w 3 (.int .i64 m)).alloc (.cells #[.bool neg, .string ds, .int .i64 sc] 23)).alloc (.cells #[.bool false] 4)
  have kD := (Blk.new (w.alloc (.cells #[.int .i64 m] 3)) #[.bool neg, .string ds, .int .i64 sc] 23).on ((Below.refl _ _).alloc (Nat.le_refl _) (.cells #[.bool false] 4))
  have b6 := Boxed.new ((w.alloc (.cells #[.int .i64 m] 3)).alloc (.cells #[.bool neg, .string ds, .int .i64 sc] 23)) 4 (.bool false)
  have z0 : (((w.alloc (.cells #[.int .i64 m] 3)).alloc (.cells #[.bool neg, .string ds, .int .i64 sc] 23)).alloc (.cells #[.bool false] 4)).heap.size = w.heap.size + 1 + 1 + 1 := by simp
  rw [World.size_alloc] at kD
  rw [World.size_alloc, World.size_alloc] at b6
  generalize hw0 : ((w.alloc (.cells #[.int .i64 m] 3)).alloc (.cells #[.bool neg, .string ds, .int .i64 sc] 23)).alloc (.cells #[.bool false] 4) = w0 at *
  have HW0 := Lib.hid hw0
  have Z0 := Lib.hid z0
  have hwk := wakes_pw w0 (hw.on hA0)
  clear hw0 z0
  refine (callsIn_wide (n := 3)).1 ?_
  refine callsIn_of_wp_marks Tryz.func3 rfl trivial ?_ rfl
  simp only [Tryz.ntmps3, List.size_toArray, List.length_cons, List.length_nil, Nat.reduceAdd, Nat.reduceSub, Array.replicate_succ, Array.replicate_zero, List.push_toArray, List.append_toArray, List.nil_append, List.cons_append]
  gi_wp2_with fail
  rw [HW0.out]
  refine ⟨trivial, ?_⟩
  refine (callsIn_wide.2 hwk).mono ?_
  rintro e w1 ⟨rfl, hB1⟩
  have b4 := boxed_on b4 hB1
  have b6 := boxed_on b6 hB1
  have kD := kD.on hB1
  have hA1 := hA0.trans (hB1.mono hA0.size)
  have Z1 := Lib.hid (show w.heap.size + 3 ≤ w1.heap.size by have := hB1.size; have := Z0.out; omega)
  have hca := cats_any w1 (hw w1 hA1).2
  clear hwk hB1 hA0
  gi_wp2_with fail
  refine ⟨trivial, ?_⟩
  refine (callsIn_wide.2 hca).mono ?_
  rintro e w' ⟨rfl, hwc⟩
  have hBc := catW_below w1
  have zc := catW_size w1
  have b4 := boxed_on b4 hBc
  have b6 := boxed_on b6 hBc
  have kD := kD.on hBc
  have hAc := hA1.trans (hBc.mono hA1.size)
  have e1 := cats_not_nil (w1.heap.size + 1)
  have hst := fun W hW Kp hK => cats_stops (3 - 1) (by decide) w1 W hW Kp hK
  subst hwc
  generalize catW w1 = wc at *
  have ZC := Lib.hid zc
  clear hca hBc zc hA1
  gi_wp2_with fail
  have b8 := Boxed.new wc 3 (.int .i64 0)
  have b4 := b4.alloc (.cells #[.int .i64 0] 3)
  have b6 := b6.alloc (.cells #[.int .i64 0] 3)
  have kD := kD.on ((Below.refl _ _).alloc (Nat.le_refl _) (.cells #[.int .i64 0] 3))
  have hA2 := hAc.alloc hAc.size (.cells #[.int .i64 0] 3)
  have z2 : (wc.alloc (.cells #[.int .i64 0] 3)).heap.size = wc.heap.size + 1 := by simp
  have hst := hst (wc.alloc (.cells #[.int .i64 0] 3)) ((Below.refl _ _).alloc (by rw [ZC.out]; exact Nat.le_refl _) _) (KeepX (wc.heap.size + 1) wc.heap.size) (fun A B j h => h.cell (by rw [ZC.out]; omega) (by rw [ZC.out]; omega))
  generalize wc.alloc (.cells #[.int .i64 0] 3) = w2 at *
  have hz1 := Z1.out
  have hzc := ZC.out
  refine rangeFU rfl (by decide) (gf := 51) (lb := #[.pointer (some ⟨w1.heap.size + 1, 0, none⟩)]) rfl trivial (enters_of Tryz.func51 (by kernel_rfl) rfl)
    hst KeepX.trans (keepX_b (by omega)) (Below.refl _ _) (fun _ => rfl)
    (fun pre W => pre <+: six ∧ Boxed W wc.heap.size 3 (.int .i64 (pre.length : Int)) ∧ KeepX (wc.heap.size + 1) wc.heap.size w2 W)
    (fun c pre W => pre <+: six → c = .exit 0 ∧ (pre.length : Int) = m ∧ Boxed W wc.heap.size 3 (.int .i64 (pre.length : Int)) ∧ KeepX (wc.heap.size + 1) wc.heap.size w2 W)
    (OwnFrom.and (ownFrom_pure _ _) (OwnFrom.and (Own.from (boxed_own _ _ _) _) (ownFrom_keepX (by omega) (by omega))))
    (fun c pre A B row hs hg hr hp => ⟨(hs hp).1, (hs hp).2.1, (OwnFrom.and (Own.from (boxed_own _ _ _) _) (ownFrom_keepX (by omega) (by omega)) : OwnFrom w2.heap.size (fun (pre : List ByteArray) W => Boxed W wc.heap.size 3 (.int .i64 (pre.length : Int)) ∧ KeepX (wc.heap.size + 1) wc.heap.size w2 W)) pre A B row (hs hp).2.2 hg hr⟩)
    ⟨List.nil_prefix, b8, KeepX.refl _ _ _⟩
    (fun x t => t.setIfInBounds 9 (.string x)) ?_ ?_ ?_ ?_
  · intro l x W K hK
    clear hz1 hzc z2
    gi_wp2
    simpa using hK
  · rintro l pre x W ⟨hpre, bk, hX⟩ hlt
    have hlt6 : pre.length < six.length := hlt
    have hsn := prefix_snoc (x := x) hpre hlt6
    rw [six_name _ hlt6] at hsn
    have hn := rName_any (pre.length : Int) W
    have hq := bytes_eqb x (nameB (pre.length : Int))
    have bkc := bk.cell
    have bkf := bk.frozen
    have b4W := (hX.boxed b4 (by omega) (by omega)).cell
    have b6W := hX.boxed b6 (by omega) (by omega)
    have b6c := b6W.cell
    have b6f := b6W.frozen
    have b4o := fun u => ((hX.boxed b4 (by omega) (by omega)).other (B' := wc.heap.size) (by omega) u).cell
    have f1 : IntKind.i64.wrap ((pre.length : Int) + 1) = (pre.length : Int) + 1 := IntWalk.i64_in _ (by omega)
    have bk2 := bk.set (.int .i64 ((pre.length : Int) + 1))
    have hX2 := hX.setCell (.int .i64 ((pre.length : Int) + 1))
    have HSN := Lib.hid hsn
    have hl : ((pre ++ [x]).length : Int) = (pre.length : Int) + 1 := by simp
    have HL := Lib.hid hl
    clear hl hsn hpre b4 b6 b8 hz1 hzc z2 hst e1 kD
    by_cases he : x = nameB (pre.length : Int)
    · have HE := Lib.hid he
      rw [decide_eq_true he] at hq
      clear he
      generalize nameB (pre.length : Int) = NM at *
      by_cases hm : (pre.length : Int) + 1 = m
      · gi_wp2_with (refine ⟨trivial, ?_⟩; gi_at_call 13; refine (CallsIn.inRound l (callsIn_wide.2 hn)).mono ?_; rintro e w' ⟨rfl, rfl⟩)
        rw [hm] at bk2 hX2
        exact ⟨KeepsOthers.setCell _ _ _, fun _ => ⟨rfl, HL.out.trans hm, by rw [HL.out, hm]; exact bk2, hX2⟩⟩
      · gi_wp2_with (refine ⟨trivial, ?_⟩; gi_at_call 13; refine (CallsIn.inRound l (callsIn_wide.2 hn)).mono ?_; rintro e w' ⟨rfl, rfl⟩)
        exact ⟨KeepsOthers.setCell _ _ _, (KeepX.refl _ _ W).setCell _, HSN.out.2 HE.out.symm, by rw [HL.out]; exact bk2, hX2⟩
    · have HE := Lib.hid he
      rw [decide_eq_false he] at hq
      clear he
      generalize nameB (pre.length : Int) = NM at *
      gi_wp2_with (refine ⟨trivial, ?_⟩; gi_at_call 13; refine (CallsIn.inRound l (callsIn_wide.2 hn)).mono ?_; rintro e w' ⟨rfl, rfl⟩)
      exact ⟨KeepsOthers.setCell _ _ _, fun hp => absurd (HSN.out.1 hp).symm HE.out⟩
  -- ENDS
  · rintro D ys W hD rfl ⟨_, bk, hX⟩ hK
    rw [show ((six.length : Nat) : Int) = 6 from rfl] at bk
    rcases is_place s with ⟨hR, hP⟩ | ⟨hR, hP⟩
    all_goals
      have hlD := (Array.getElem?_eq_some_iff.1 hK).1
      have hzX := hX.size
      have b4 := hX.boxed b4 (by omega) (by omega)
      have b6 := hX.boxed b6 (by omega) (by omega)
      have kD := kD.later (hX.below (M := wc.heap.size) (by omega) (Nat.le_refl _)) (by omega)
      have hA3 := hA2.trans (hX.below (M := w.heap.size) (by omega) (by omega))
      have hsc := setCats_nil W (fun V hV => (hw V (hA3.trans (hV.mono hA3.size))).2)
      have hbz : w.heap.size + 2 < W.heap.size := by omega
      have hDb : D ≠ w.heap.size + 1 + 1 := by omega
      have hDw : w.heap.size ≤ D := by omega
      clear hz1 hzc hzX z2 hst e1 hX b8 HW0 hA2 hAc
      gi_wp2_with fail
      refine ⟨trivial, ?_⟩
      refine (callsIn_wide.2 hsc).mono ?_
      rintro e w3 ⟨⟨g, cap, rfl, hg, hgl⟩, hB3⟩
      have b4 := boxed_on b4 hB3
      have b6 := boxed_on b6 hB3
      have bk := boxed_on bk hB3
      have kD := kD.on hB3
      have hA4 := hA3.trans (hB3.mono hA3.size)
      have hK := (hB3.block D hlD).trans hK
      have hlD := Nat.lt_of_lt_of_le hlD hB3.size
      have ck := bk.cell
      have c4 := b4.cell
      have cd := kD.cell
      have hie := is_any s w3 (hw w3 hA4).2
      rw [hR] at hie
      clear hsc
      gi_wp2_with fail
      refine ⟨trivial, ?_⟩
      refine (callsIn_wide.2 hie).mono ?_
      rintro e w4 ⟨rfl, hB4⟩
      have b6 := boxed_on b6 hB4
      have kD := kD.on hB4
      have hA5 := hA4.trans (hB4.mono hA4.size)
      have hK := (hB4.block D hlD).trans hK
      have hlD := Nat.lt_of_lt_of_le hlD hB4.size
      have hg := (hB4.cell (p := ⟨g, 0, none⟩) hgl).trans hg
      have hgl := Nat.lt_of_lt_of_le hgl hB4.size
      have cd := kD.cell
      have hpl := rPlace_any s w4
      generalize plcB s = Pl at *
      clear hie ck c4 bk
      gi_wp2_with fail
      refine ⟨trivial, ?_⟩
      refine (callsIn_wide.2 hpl).mono ?_
      rintro e w' ⟨rfl, rfl⟩
      have hho := holds_nil neg ds sc w4
      clear hpl
      gi_wp2_with fail
      refine ⟨trivial, ?_⟩
      refine (callsIn_wide.2 hho).mono ?_
      rintro e w5 ⟨rfl, hB5⟩
      have b6 := boxed_on b6 hB5
      have kD := kD.on hB5
      have hA6 := hA5.trans (hB5.mono hA5.size)
      have hK := (hB5.block D hlD).trans hK
      have hlD := Nat.lt_of_lt_of_le hlD hB5.size
      have hg := (hB5.cell (p := ⟨g, 0, none⟩) hgl).trans hg
      have hgl := Nat.lt_of_lt_of_le hgl hB5.size
      have cd := kD.cell
      have hpr := print_nil w5
      clear hho
      gi_wp2_with fail
      refine ⟨trivial, ?_⟩
      refine (callsIn_wide.2 hpr).mono ?_
      rintro e w' ⟨rfl, rfl⟩
      have hcn := cat_nil neg ds sc w5
      clear hpr
      gi_wp2_with fail
      refine ⟨trivial, ?_⟩
      refine (callsIn_wide.2 hcn).mono ?_
      rintro e w6 ⟨rfl, hB6⟩
      have b6 := boxed_on b6 hB6
      have hA7 := hA6.trans (hB6.mono hA6.size)
      have hK := (hB6.block D hlD).trans hK
      have hg := (hB6.cell (p := ⟨g, 0, none⟩) hgl).trans hg
      have b6c := b6.cell
      have b6f := b6.frozen
      clear hcn cd
      unfold otherB at *
      gi_wp2_with fail
      have ks := KeepsOthers.setCell w6 ⟨w.heap.size + 1 + 1, 0, none⟩ (.bool true)
      have hB' := hA7.setCell (p := ⟨w.heap.size + 1 + 1, 0, none⟩) (show w.heap.size ≤ w.heap.size + 1 + 1 by omega) (.bool true)
      have bT := b6.set (.bool true)
      try rw [hP, Bool.not_false]
      refine leaves_marks (w0 := w) [D] _ (fun E hE => ?_) ?_ (fun w' hb hk => ?_)
      · simp only [List.mem_cons, List.not_mem_nil, or_false] at hE
        subst hE
        exact ⟨hDw, ks.same _ _ hK rfl⟩
      · simp
      · have hc5 : w'.cell? ⟨w.heap.size + 1 + 1, 0, none⟩ = some (.bool true) := by
          have h := hk (w.heap.size + 1 + 1) (by simp only [List.mem_cons, List.not_mem_nil, or_false]; omega)
          exact (World.cell?_of_block h).trans bT.cell
        refine ⟨.bool true, ?_, rfl, hB'.trans hb⟩
        simp [results, Tryz.f3, go_sem, hc5]
  · rintro D c pre W hD hSp hIx hK
    obtain ⟨rfl, hm, bk, hX⟩ := hIx hSp
    rw [hm] at bk
    clear hm hIx hSp
    by_cases h6 : m = 6
    all_goals
      rcases is_place s with ⟨hR, hP⟩ | ⟨hR, hP⟩
      all_goals
        have hlD := (Array.getElem?_eq_some_iff.1 hK).1
        have hzX := hX.size
        have b4 := hX.boxed b4 (by omega) (by omega)
        have b6 := hX.boxed b6 (by omega) (by omega)
        have kD := kD.later (hX.below (M := wc.heap.size) (by omega) (Nat.le_refl _)) (by omega)
        have hA3 := hA2.trans (hX.below (M := w.heap.size) (by omega) (by omega))
        have hsc := setCats_nil W (fun V hV => (hw V (hA3.trans (hV.mono hA3.size))).2)
        have hbz : w.heap.size + 2 < W.heap.size := by omega
        have hDb : D ≠ w.heap.size + 1 + 1 := by omega
        have hDw : w.heap.size ≤ D := by omega
        clear hz1 hzc hzX z2 hst e1 hX b8 HW0 hA2 hAc
        gi_wp2_with fail
        refine ⟨trivial, ?_⟩
        refine (callsIn_wide.2 hsc).mono ?_
        rintro e w3 ⟨⟨g, cap, rfl, hg, hgl⟩, hB3⟩
        have b4 := boxed_on b4 hB3
        have b6 := boxed_on b6 hB3
        have bk := boxed_on bk hB3
        have kD := kD.on hB3
        have hA4 := hA3.trans (hB3.mono hA3.size)
        have hK := (hB3.block D hlD).trans hK
        have hlD := Nat.lt_of_lt_of_le hlD hB3.size
        have ck := bk.cell
        have c4 := b4.cell
        have cd := kD.cell
        have hie := is_any s w3 (hw w3 hA4).2
        rw [hR] at hie
        clear hsc
        gi_wp2_with fail
        refine ⟨trivial, ?_⟩
        refine (callsIn_wide.2 hie).mono ?_
        rintro e w4 ⟨rfl, hB4⟩
        have b6 := boxed_on b6 hB4
        have kD := kD.on hB4
        have hA5 := hA4.trans (hB4.mono hA4.size)
        have hK := (hB4.block D hlD).trans hK
        have hlD := Nat.lt_of_lt_of_le hlD hB4.size
        have hg := (hB4.cell (p := ⟨g, 0, none⟩) hgl).trans hg
        have hgl := Nat.lt_of_lt_of_le hgl hB4.size
        have cd := kD.cell
        have hpl := rPlace_any s w4
        generalize plcB s = Pl at *
        clear hie ck c4 bk
        gi_wp2_with fail
        refine ⟨trivial, ?_⟩
        refine (callsIn_wide.2 hpl).mono ?_
        rintro e w' ⟨rfl, rfl⟩
        have hho := holds_nil neg ds sc w4
        clear hpl
        gi_wp2_with fail
        refine ⟨trivial, ?_⟩
        refine (callsIn_wide.2 hho).mono ?_
        rintro e w5 ⟨rfl, hB5⟩
        have b6 := boxed_on b6 hB5
        have kD := kD.on hB5
        have hA6 := hA5.trans (hB5.mono hA5.size)
        have hK := (hB5.block D hlD).trans hK
        have hlD := Nat.lt_of_lt_of_le hlD hB5.size
        have hg := (hB5.cell (p := ⟨g, 0, none⟩) hgl).trans hg
        have hgl := Nat.lt_of_lt_of_le hgl hB5.size
        have cd := kD.cell
        have hpr := print_nil w5
        clear hho
        gi_wp2_with fail
        refine ⟨trivial, ?_⟩
        refine (callsIn_wide.2 hpr).mono ?_
        rintro e w' ⟨rfl, rfl⟩
        have hcn := cat_nil neg ds sc w5
        clear hpr
        gi_wp2_with fail
        refine ⟨trivial, ?_⟩
        refine (callsIn_wide.2 hcn).mono ?_
        rintro e w6 ⟨rfl, hB6⟩
        have b6 := boxed_on b6 hB6
        have hA7 := hA6.trans (hB6.mono hA6.size)
        have hK := (hB6.block D hlD).trans hK
        have hg := (hB6.cell (p := ⟨g, 0, none⟩) hgl).trans hg
        have b6c := b6.cell
        have b6f := b6.frozen
        clear hcn cd
        unfold otherB at *
        gi_wp2_with fail
        have ks := KeepsOthers.setCell w6 ⟨w.heap.size + 1 + 1, 0, none⟩ (.bool true)
        have hB' := hA7.setCell (p := ⟨w.heap.size + 1 + 1, 0, none⟩) (show w.heap.size ≤ w.heap.size + 1 + 1 by omega) (.bool true)
        have bT := b6.set (.bool true)
        try rw [hP, Bool.not_false]
        refine leaves_marks (w0 := w) [D] _ (fun E hE => ?_) ?_ (fun w' hb hk => ?_)
        · simp only [List.mem_cons, List.not_mem_nil, or_false] at hE
          subst hE
          exact ⟨hDw, ks.same _ _ hK rfl⟩
        · simp
        · have hc5 : w'.cell? ⟨w.heap.size + 1 + 1, 0, none⟩ = some (.bool true) := by
            have h := hk (w.heap.size + 1 + 1) (by simp only [List.mem_cons, List.not_mem_nil, or_false]; omega)
            exact (World.cell?_of_block h).trans bT.cell
          refine ⟨.bool true, ?_, rfl, hB'.trans hb⟩
          simp [results, Tryz.f3, go_sem, hc5]
end
end Go.Proofs.YtgbemhehbhlgpaaGreatDoor
