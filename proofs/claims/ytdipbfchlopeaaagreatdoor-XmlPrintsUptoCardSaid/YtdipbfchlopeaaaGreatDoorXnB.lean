/-
  strings.Builder wherever it lies (in a struct's field, too): copyCheck, WriteString, WriteRune, Len, String, Reset.
  unicode/utf8.AppendRune onto a row of bytes of the call's own; strings.Builder's WriteRune, Len, String, Reset wherever it lies.
  The reader of files: what ends the walk, what has to stand there, the next byte.
  The reader of files: blanks.
  The reader of files: a name.
-/
import Derived.Test.YtdipbfchlopeaaaGreatDoorXnA
import Derived.Lib.Builder
import Derived.Lib.AppendStr
import Derived.Lib.UnsafeStr
import Derived.Laws.Externs
import Derived.Shelf.Strings.BuilderRune
namespace Go.Proofs.YtdipbfchlopeaaaGreatDoor
section
open Go.RowKit Go.PlainAid

/-- A builder at place o of block b (cells cs, type T): its buffer v holds bs. -/
structure Bld (lo b o : Nat) (T : TypeId) (cs : Array Value) (v : Value) (bs : List UInt8) (w : World) : Prop where
  blk : w.heap[b]? = some (.cells cs T (0, 0))
  p : cs[o]? = some (.pointer none) ∨ cs[o]? = some (.pointer (some ⟨b, o, none⟩))
  q : cs[o + 1]? = some v
  row : w.ownsRow lo 5 1 v bs.length (Lib.byteCells bs)
  ne : v.ownBlock ≠ some b
  lies : liesAt Tryz.prog Tryz.prog.depth T (cs.size / Tryz.prog.cellsOf T) o 80 1 = true
  lo : lo ≤ w.heap.size
/-- All but block b and the buffer's own block is as it was. -/
structure KeepB (b : Nat) (v : Value) (w w' : World) : Prop where
  os : w'.os = w.os
  tape : w'.tape = w.tape
  output : w'.output = w.output
  size : w.heap.size ≤ w'.heap.size
  block : ∀ k, k < w.heap.size → k ≠ b → v.ownBlock ≠ some k → w'.heap[k]? = w.heap[k]?
theorem KeepB.refl (b : Nat) (v : Value) (w : World) : KeepB b v w w := ⟨rfl, rfl, rfl, Nat.le_refl _, fun _ _ _ _ => rfl⟩
/-- Bytes in memory. -/
def ByE : ETy UInt8 where
  T := 5
  ST := 78
  sz := 1
  bs := 1
  z := .int .u8 0
  enc := fun c => [.int .u8 (c.toNat : Int)]
  hsz := by decide
  hbs := by decide
  hlen := fun _ => rfl
  hz := rfl
  info := by kernel_rfl
  und := Tryz.underlying78
  hone := fun _ => by simp [Value.oneCell']
theorem ownsRow_later {lo : Nat} {e : TypeId} {sz : Nat} {w w' : World} {v : Value} {n : Nat} {xs : List Value} (h : w.ownsRow lo e sz v n xs) (hb : ∀ g, v.ownBlock = some g → w'.heap[g]? = w.heap[g]?) : w'.ownsRow lo e sz v n xs := by
  obtain ⟨h1, h2⟩ := h
  refine ⟨h1, ?_⟩
  rcases h2 with h2 | ⟨g, cap, cur, hv, hg, hh, r⟩
  · exact .inl h2
  · exact .inr ⟨g, cap, cur, hv, hg, (hb g (by rw [hv]; rfl)).trans hh, r⟩
theorem bsize : (Tryz.prog.info? 80).map (·.size) = some 2 := by kernel_rfl
theorem binfo : (Tryz.prog.info? 5).map (fun i => (i.zero, i.size, i.bytes)) = some (some (.int .u8 0), 1, 1) := by kernel_rfl
theorem cellH {w : World} {b : Nat} {cs : Array Value} {T : TypeId} {fz : Nat × Nat} (h : w.heap[b]? = some (.cells cs T fz)) (i : Nat) : w.cell? ⟨b, i, none⟩ = cs[i]? := by
  simp [World.cell?, h]
theorem freeH {w : World} {b : Nat} {cs : Array Value} {T : TypeId} (h : w.heap[b]? = some (.cells cs T (0, 0))) (i : Nat) : w.frozen? ⟨b, i, none⟩ = false := by
  simp [World.frozen?, h]
theorem shapeH {w : World} {b : Nat} {cs : Array Value} {T : TypeId} (h : w.heap[b]? = some (.cells cs T (0, 0))) : w.shape? b = some (T, cs.size) := by
  simp [World.shape?, h]
theorem setH {w : World} {b : Nat} {cs : Array Value} {T : TypeId} (h : w.heap[b]? = some (.cells cs T (0, 0))) (i : Nat) (v : Value) : (w.setCell ⟨b, i, none⟩ v).heap[b]? = some (.cells (cs.setIfInBounds i v) T (0, 0)) := Go.Joins.block_setCell h v

set_option maxHeartbeats 1000000 in
set_option maxRecDepth 100000 in
theorem copyCheck_used (b o : Nat) (w : World) (h0 : w.cell? ⟨b, o, none⟩ = some (.pointer (some ⟨b, o, none⟩))) :
    Calls Tryz.prog 66 #[.pointer (some ⟨b, o, none⟩)] w fun e w' => e = .returned (.tuple #[]) ∧ w = w' := by
  obtain ⟨j, hj, _⟩ := Option.map_eq_some_iff.1 bsize
  go_enter Tryz.func66, Tryz.ntmps66
  go_wp2
  rw [Lib.run_neq_ptr_same w _ Tryz.underlying77 hj]
  go_wp2
  go_end0
  exact ⟨rfl, rfl⟩
set_option maxHeartbeats 1000000 in
set_option maxRecDepth 100000 in
theorem copyCheck_fresh (b o : Nat) (T : TypeId) (n : Nat) (w : World) (h0 : w.cell? ⟨b, o, none⟩ = some (.pointer none)) (hsh : w.shape? b = some (T, n)) (ho : o < n) (hfz : w.frozen? ⟨b, o, none⟩ = false)
    (hl : liesAt Tryz.prog Tryz.prog.depth T (n / Tryz.prog.cellsOf T) o 80 1 = true) :
    Calls Tryz.prog 66 #[.pointer (some ⟨b, o, none⟩)] w fun e w' => e = .returned (.tuple #[]) ∧ w.setCell ⟨b, o, none⟩ (.pointer (some ⟨b, o, none⟩)) = w' := by
  obtain ⟨j, hj, hjs⟩ := Option.map_eq_some_iff.1 bsize
  go_enter Tryz.func66, Tryz.ntmps66
  go_wp2
  rw [Lib.run_to_unsafe w ⟨b, o, none⟩ Tryz.underlying77 Tryz.underlying148 hj (by rw [hjs]; decide) hsh ho]
  simp only [Result.andThen]
  rw [Oper.upon_value]
  go_wp2
  rw [run_callFunc_extern Tryz.func93 (by kernel_rfl) (by kernel_rfl) (by kernel_rfl) (e := Extern.AbiNoEscape.same) (by kernel_rfl)]
  rw [Lib.run_noEscape]
  simp only [Result.andThen]
  rw [Oper.upon_value]
  go_wp2
  rw [Lib.run_from_unsafe w ⟨b, o, none⟩ Tryz.underlying148 Tryz.underlying77 hj hsh hl]
  simp only [Result.andThen]
  rw [Oper.upon_value]
  go_wp2
  go_end0
  exact ⟨rfl, rfl⟩

/-- The cells behind a write. -/
def wrC (b o : Nat) (cs : Array Value) (v : Value) : Array Value := (cs.setIfInBounds o (.pointer (some ⟨b, o, none⟩))).setIfInBounds (o + 1) v
section
variable {lo b o : Nat} {T : TypeId} {cs : Array Value} {v : Value} {bs : List UInt8} {w : World}
theorem Bld.lt (h : Bld lo b o T cs v bs w) : o + 1 < cs.size := (Array.getElem?_eq_some_iff.1 h.q).1
theorem Bld.form (h : Bld lo b o T cs v bs w) : ∃ a cap, v = .slice a bs.length cap := by
  rcases h.row.2 with ⟨hv, h0⟩ | ⟨g, cap, cur, hv, _⟩
  · exact ⟨none, 0, by rw [hv, h0]⟩
  · exact ⟨_, _, hv⟩
set_option maxHeartbeats 1000000 in
/-- Behind copyCheck. -/
theorem copyCheck_any (h : Bld lo b o T cs v bs w) :
    Calls Tryz.prog 66 #[.pointer (some ⟨b, o, none⟩)] w fun e w' => e = .returned (.tuple #[]) ∧ Bld lo b o T (cs.setIfInBounds o (.pointer (some ⟨b, o, none⟩))) v bs w' ∧ KeepB b v w w' ∧ (∀ k, k ≠ b → w'.heap[k]? = w.heap[k]?) ∧ w'.heap.size = w.heap.size := by
  have hlt := h.lt
  rcases h.p with hp | hp
  · refine (copyCheck_fresh b o T cs.size w ((cellH h.blk o).trans hp) (shapeH h.blk) (by omega) (freeH h.blk o) h.lies).mono ?_
    rintro e w' ⟨rfl, rfl⟩
    have hk : ∀ k, k ≠ b → (w.setCell ⟨b, o, none⟩ (.pointer (some ⟨b, o, none⟩))).heap[k]? = w.heap[k]? := fun k hk => Below.heap_setCell _ _ _ _ hk
    refine ⟨rfl, ⟨setH h.blk o _, .inr (Array.getElem?_setIfInBounds_self_of_lt (by omega)), ?_, ?_, h.ne, by rw [Array.size_setIfInBounds]; exact h.lies, by simpa using h.lo⟩, ⟨rfl, rfl, rfl, by simp, fun k _ hb _ => hk k hb⟩, hk, by simp⟩
    · rw [Array.getElem?_setIfInBounds_ne (by omega)]
      exact h.q
    · exact ownsRow_later h.row (fun g hg => hk g (fun e => h.ne (by rw [hg, e])))
  · refine (copyCheck_used b o w ((cellH h.blk o).trans hp)).mono ?_
    rintro e w' ⟨rfl, rfl⟩
    have hcs : cs.setIfInBounds o (.pointer (some ⟨b, o, none⟩)) = cs := by
      apply Array.ext
      · simp
      · intro i h1 h2
        rw [Array.getElem_setIfInBounds]
        split
        · rename_i e
          subst e
          rw [Array.getElem?_eq_getElem h2] at hp
          exact (Option.some.inj hp).symm
        · rfl
    rw [hcs]
    exact ⟨rfl, h, KeepB.refl _ _ _, fun _ _ => rfl, rfl⟩
theorem KeepB.trans {b : Nat} {v v' : Value} {w w1 w2 : World} (h : KeepB b v w w1) (k : KeepB b v' w1 w2) (hv : ∀ g, v'.ownBlock = some g → v.ownBlock = some g ∨ w.heap.size ≤ g) : KeepB b v w w2 :=
  ⟨k.os.trans h.os, k.tape.trans h.tape, k.output.trans h.output, Nat.le_trans h.size k.size, fun i hi hb hn => (k.block i (Nat.lt_of_lt_of_le hi h.size) hb (fun e => by
    rcases hv i e with h' | h'
    · exact hn h'
    · omega)).trans (h.block i hi hb hn)⟩
theorem KeepB.drew {b : Nat} {v : Value} {w w1 : World} (h : KeepB b v w w1) : KeepB b v w w1.drew := ⟨h.os, h.tape, h.output, h.size, h.block⟩
/-- What a write leaves. -/
def Wrote (lo b o : Nat) (T : TypeId) (cs : Array Value) (v : Value) (bs new : List UInt8) (w w' : World) : Prop :=
  ∃ v', Bld lo b o T (wrC b o cs v') v' (bs ++ new) w' ∧ KeepB b v w w' ∧ ∀ g, v'.ownBlock = some g → lo ≤ g
theorem wrote_end {w2 w1 : World} {v' : Value} {new : List UInt8} (h : Bld lo b o T cs v bs w) (h1 : Bld lo b o T (cs.setIfInBounds o (.pointer (some ⟨b, o, none⟩))) v bs w1) (hk : KeepB b v w w1) (hown : w2.ownsRow lo 5 1 v' (bs ++ new).length (Lib.byteCells (bs ++ new)))
    (hg : ∃ x, (w1.alloc x).grownBy w2 v.ownBlock ∨ w1.grownBy w2 v.ownBlock) (hT : T ≠ 5) : Wrote lo b o T cs v bs new w (w2.setCell ⟨b, o + 1, none⟩ v') := by
  have hb1 := lt_some h1.blk
  have hb2 : w2.heap[b]? = some (.cells (cs.setIfInBounds o (.pointer (some ⟨b, o, none⟩))) T (0, 0)) := by
    obtain ⟨x, hg | hg⟩ := hg
    · rw [hg.block b (by simp; omega) (fun e => h1.ne e.symm), Lib.alloc_old w1 _ b hb1]
      exact h1.blk
    · rw [hg.block b hb1 (fun e => h1.ne e.symm)]
      exact h1.blk
  have hsz : w1.heap.size ≤ w2.heap.size := by
    obtain ⟨x, hg | hg⟩ := hg
    · have := hg.size; simp at this; omega
    · exact hg.size
  have hblk : ∀ k, k < w1.heap.size → v.ownBlock ≠ some k → w2.heap[k]? = w1.heap[k]? := fun k hk' hn => by
    obtain ⟨x, hg | hg⟩ := hg
    · rw [hg.block k (by simp; omega) (fun e => hn e.symm), Lib.alloc_old w1 _ k hk']
    · exact hg.block k hk' (fun e => hn e.symm)
  have hoo : w2.os = w1.os ∧ w2.tape = w1.tape ∧ w2.output = w1.output := by
    obtain ⟨x, hg | hg⟩ := hg
    · exact ⟨hg.os, hg.tape, hg.output⟩
    · exact ⟨hg.os, hg.tape, hg.output⟩
  have hne' : v'.ownBlock ≠ some b := fun e => by
    rcases hown.2 with ⟨hv, _⟩ | ⟨g, cap, cur, hv, _, hh, _⟩
    · rw [hv] at e; simp [Value.ownBlock] at e
    · rw [hv] at e
      simp [Value.ownBlock] at e
      subst e
      rw [hb2] at hh
      injection hh with hh
      injection hh with _ hh
      exact hT hh
  have hlt := h.lt
  refine ⟨v', ⟨?_, .inr ?_, ?_, ?_, hne', ?_, ?_⟩, ⟨?_, ?_, ?_, ?_, ?_⟩, fun g hg' => (World.ownsRow.lt hown g hg').1⟩
  · exact setH hb2 (o + 1) v'
  · unfold wrC
    rw [Array.getElem?_setIfInBounds_ne (by omega), Array.getElem?_setIfInBounds_self_of_lt (by omega)]
  · unfold wrC
    rw [Array.getElem?_setIfInBounds_self_of_lt (by rw [Array.size_setIfInBounds]; omega)]
  · exact ownsRow_later hown (fun g hg' => Below.heap_setCell _ _ _ _ (fun e => hne' (by rw [hg']; exact congrArg some e)))
  · unfold wrC
    rw [Array.size_setIfInBounds, Array.size_setIfInBounds]
    exact h.lies
  · have := h1.lo; simp; omega
  · exact hoo.1.trans hk.os
  · exact hoo.2.1.trans hk.tape
  · exact hoo.2.2.trans hk.output
  · have := hk.size; simp; omega
  · intro k hk' hb hn
    have hs := hk.size
    rw [Below.heap_setCell _ _ _ _ hb, hblk k (by omega) hn]
    exact hk.block k hk' hb hn
set_option maxHeartbeats 2000000 in
set_option maxRecDepth 100000 in
theorem bWriteString (h : Bld lo b o T cs v bs w) (s : ByteArray) (hlen : bs.length + s.size ≤ 140737488355328) (hT : T ≠ 5) :
    Calls Tryz.prog 39 #[.pointer (some ⟨b, o, none⟩), .string s] w fun e w' => e = .returned (.tuple #[.int .i64 s.size, .nilIface]) ∧ Wrote lo b o T cs v bs s.data.toList w w' := by
  obtain ⟨i0, hi, hz0, hz1, hz2⟩ := info_parts binfo
  have hcc := copyCheck_any h
  go_enter Tryz.func39, Tryz.ntmps39
  go_wp2_with fail
  refine hcc.mono ?_
  rintro e w1 ⟨rfl, h1, hk, _, _⟩
  have c1 : w1.cell? ⟨b, o + 1, none⟩ = some v := (cellH h1.blk _).trans h1.q
  have hf1 := freeH h1.blk (o + 1)
  clear hcc
  go_wp2_with (at_builtin; refine Lib.wpList_append_own_string _ rfl _ _ 78 9 rfl lo 5 i0 Tryz.underlying78 Tryz.underlying9 hi hz0 hz1 hz2 _ _ _ rfl h1.row s rfl ?c3 ?c4 ?c5 ?_)
  case c3 => unfold maxLen; omega
  case c4 => omega
  case c5 => exact h1.lo
  intro v' w2 hown' hgrow _
  have hend := wrote_end (new := s.data.toList) h h1 hk (by simpa [Lib.byteCells, Lib.strCells] using hown') ⟨.cells #[] 5, .inr hgrow⟩ hT
  have hb2 : w2.heap[b]? = some (.cells (cs.setIfInBounds o (.pointer (some ⟨b, o, none⟩))) T (0, 0)) := by
    rw [hgrow.block b (lt_some h1.blk) (fun e => h1.ne e.symm)]
    exact h1.blk
  have d1 : w2.cell? ⟨b, o + 1, none⟩ = some v := (cellH hb2 _).trans h1.q
  have f1 := freeH hb2 (o + 1)
  obtain ⟨ao, n', cap, rfl⟩ : ∃ ao n' cap, v' = .slice ao n' cap := by
    rcases hown'.2 with ⟨hv, _⟩ | ⟨g, cap, cur, hv, _⟩
    · exact ⟨_, _, _, hv⟩
    · exact ⟨_, _, _, hv⟩
  have HE := Lib.hid hend
  clear hend hown' hgrow
  go_wp2_with fail
  go_ret2
  exact ⟨rfl, HE.out⟩
end
end

section
open Go.RowKit Go.PlainAid

set_option maxHeartbeats 4000000 in
set_option maxRecDepth 100000 in
theorem appendRune_two (B : Nat) (v : Value) (n : Nat) (xs : List Value) (r : Int) (h0 : 128 ≤ r) (h1 : r ≤ 2047) (w : World) (hown : w.ownsRow B 5 1 v n xs) (hlen : n + 4 ≤ 140737488355328) (hBw : B ≤ w.heap.size) :
    Calls Tryz.prog 148 #[v, .int .i32 r] w fun e w' => ∃ v', e = .returned v' ∧ w'.ownsRow B 5 1 v' (n + 2) (xs ++ [.int .u8 (192 + r / 64), .int .u8 (128 + r % 64)]) ∧ ∃ o, (w.alloc o).grownBy w' v.ownBlock := by
  obtain ⟨i0, hi, hz0, hz1, hz2⟩ := info_parts binfo
  go_enter Tryz.func148, Tryz.ntmps148
  go_wp2_with (at_builtin; refine wpList_append_own _ rfl _ _ 78 rfl B 5 i0 (.int .u8 0) 1 1 Tryz.underlying78 hi hz0 hz1 hz2 rfl (by decide) _ _ _ rfl (hown.alloc _) ⟨w.heap.size, 0, none⟩ 2 2 [.int .u8 (192 + r / 64), .int .u8 (128 + r % 64)] rfl rfl ?c1 ?c2 ?c3 ?c4 ?c5 ?_)
  case c1 =>
    intro j u hj
    match j, hj with
    | 0, hj => simp at hj; subst hj; simp [Addr.add]
    | 1, hj => simp at hj; subst hj; simp [Addr.add]
    | (j + 2), hj => simp at hj
  case c2 => intro u hu; simp at hu; rcases hu with rfl | rfl <;> rfl
  case c3 => unfold maxLen; omega
  case c4 => omega
  case c5 => simp; omega
  intro v' w2 hown' hgrow _
  go_wp2
  go_ret
  exact ⟨_, rfl, hown', _, hgrow⟩

set_option maxHeartbeats 4000000 in
set_option maxRecDepth 100000 in
theorem appendRune_lo (B : Nat) (v : Value) (n : Nat) (xs : List Value) (r : Int) (h0 : 2048 ≤ r) (h1 : r < 55296) (w : World) (hown : w.ownsRow B 5 1 v n xs) (hlen : n + 4 ≤ 140737488355328) (hBw : B ≤ w.heap.size) :
    Calls Tryz.prog 148 #[v, .int .i32 r] w fun e w' => ∃ v', e = .returned v' ∧ w'.ownsRow B 5 1 v' (n + 3) (xs ++ [.int .u8 (224 + r / 4096), .int .u8 (128 + r / 64 % 64), .int .u8 (128 + r % 64)]) ∧ ∃ o, (w.alloc o).grownBy w' v.ownBlock := by
  obtain ⟨i0, hi, hz0, hz1, hz2⟩ := info_parts binfo
  go_enter Tryz.func148, Tryz.ntmps148
  go_wp2_with (at_builtin; refine wpList_append_own _ rfl _ _ 78 rfl B 5 i0 (.int .u8 0) 1 1 Tryz.underlying78 hi hz0 hz1 hz2 rfl (by decide) _ _ _ rfl (hown.alloc _) ⟨w.heap.size, 0, none⟩ 3 3 [.int .u8 (224 + r / 4096), .int .u8 (128 + r / 64 % 64), .int .u8 (128 + r % 64)] rfl rfl ?c1 ?c2 ?c3 ?c4 ?c5 ?_)
  case c1 =>
    intro j u hj
    match j, hj with
    | 0, hj => simp at hj; subst hj; simp [Addr.add]
    | 1, hj => simp at hj; subst hj; simp [Addr.add]
    | 2, hj => simp at hj; subst hj; simp [Addr.add]
    | (j + 3), hj => simp at hj
  case c2 => intro u hu; simp at hu; rcases hu with rfl | rfl | rfl <;> rfl
  case c3 => unfold maxLen; omega
  case c4 => omega
  case c5 => simp; omega
  intro v' w2 hown' hgrow _
  go_wp2
  go_ret
  exact ⟨_, rfl, hown', _, hgrow⟩

set_option maxHeartbeats 4000000 in
set_option maxRecDepth 100000 in
theorem appendRune_hi (B : Nat) (v : Value) (n : Nat) (xs : List Value) (r : Int) (h0 : 57343 < r) (h1 : r ≤ 65535) (w : World) (hown : w.ownsRow B 5 1 v n xs) (hlen : n + 4 ≤ 140737488355328) (hBw : B ≤ w.heap.size) :
    Calls Tryz.prog 148 #[v, .int .i32 r] w fun e w' => ∃ v', e = .returned v' ∧ w'.ownsRow B 5 1 v' (n + 3) (xs ++ [.int .u8 (224 + r / 4096), .int .u8 (128 + r / 64 % 64), .int .u8 (128 + r % 64)]) ∧ ∃ o, (w.alloc o).grownBy w' v.ownBlock := by
  obtain ⟨i0, hi, hz0, hz1, hz2⟩ := info_parts binfo
  go_enter Tryz.func148, Tryz.ntmps148
  go_wp2_with (at_builtin; refine wpList_append_own _ rfl _ _ 78 rfl B 5 i0 (.int .u8 0) 1 1 Tryz.underlying78 hi hz0 hz1 hz2 rfl (by decide) _ _ _ rfl (hown.alloc _) ⟨w.heap.size, 0, none⟩ 3 3 [.int .u8 (224 + r / 4096), .int .u8 (128 + r / 64 % 64), .int .u8 (128 + r % 64)] rfl rfl ?c1 ?c2 ?c3 ?c4 ?c5 ?_)
  case c1 =>
    intro j u hj
    match j, hj with
    | 0, hj => simp at hj; subst hj; simp [Addr.add]
    | 1, hj => simp at hj; subst hj; simp [Addr.add]
    | 2, hj => simp at hj; subst hj; simp [Addr.add]
    | (j + 3), hj => simp at hj
  case c2 => intro u hu; simp at hu; rcases hu with rfl | rfl | rfl <;> rfl
  case c3 => unfold maxLen; omega
  case c4 => omega
  case c5 => simp; omega
  intro v' w2 hown' hgrow _
  go_wp2
  go_ret
  exact ⟨_, rfl, hown', _, hgrow⟩

set_option maxHeartbeats 4000000 in
set_option maxRecDepth 100000 in
theorem appendRune_four (B : Nat) (v : Value) (n : Nat) (xs : List Value) (r : Int) (h0 : 65536 ≤ r) (h1 : r ≤ 1114111) (w : World) (hown : w.ownsRow B 5 1 v n xs) (hlen : n + 4 ≤ 140737488355328) (hBw : B ≤ w.heap.size) :
    Calls Tryz.prog 148 #[v, .int .i32 r] w fun e w' => ∃ v', e = .returned v' ∧ w'.ownsRow B 5 1 v' (n + 4) (xs ++ [.int .u8 (240 + r / 262144), .int .u8 (128 + r / 4096 % 64), .int .u8 (128 + r / 64 % 64), .int .u8 (128 + r % 64)]) ∧ ∃ o, (w.alloc o).grownBy w' v.ownBlock := by
  obtain ⟨i0, hi, hz0, hz1, hz2⟩ := info_parts binfo
  go_enter Tryz.func148, Tryz.ntmps148
  go_wp2_with (at_builtin; refine wpList_append_own _ rfl _ _ 78 rfl B 5 i0 (.int .u8 0) 1 1 Tryz.underlying78 hi hz0 hz1 hz2 rfl (by decide) _ _ _ rfl (hown.alloc _) ⟨w.heap.size, 0, none⟩ 4 4 [.int .u8 (240 + r / 262144), .int .u8 (128 + r / 4096 % 64), .int .u8 (128 + r / 64 % 64), .int .u8 (128 + r % 64)] rfl rfl ?c1 ?c2 ?c3 ?c4 ?c5 ?_)
  case c1 =>
    intro j u hj
    match j, hj with
    | 0, hj => simp at hj; subst hj; simp [Addr.add]
    | 1, hj => simp at hj; subst hj; simp [Addr.add]
    | 2, hj => simp at hj; subst hj; simp [Addr.add]
    | 3, hj => simp at hj; subst hj; simp [Addr.add]
    | (j + 4), hj => simp at hj
  case c2 => intro u hu; simp at hu; rcases hu with rfl | rfl | rfl | rfl <;> rfl
  case c3 => unfold maxLen; omega
  case c4 => omega
  case c5 => simp; omega
  intro v' w2 hown' hgrow _
  go_wp2
  go_ret
  exact ⟨_, rfl, hown', _, hgrow⟩

/-- Runes that have a form of their own. -/
def okRune (r : Int) : Prop := (0 ≤ r ∧ r < 55296) ∨ (57343 < r ∧ r ≤ 1114111)
theorem rChar_ok {r : Int} (h : rChar r = true) : okRune r := by
  have := of_decide_eq_true h
  unfold okRune
  omega
theorem appendRune_other (B : Nat) (v : Value) (n : Nat) (xs : List Value) (r : Int) (hr : okRune r) (h1 : 128 ≤ r) (w : World) (hown : w.ownsRow B 5 1 v n xs) (hlen : n + 4 ≤ 140737488355328) (hBw : B ≤ w.heap.size) :
    Calls Tryz.prog 148 #[v, .int .i32 r] w fun e w' => ∃ v', e = .returned v' ∧ w'.ownsRow B 5 1 v' (n + (Lib.runeCells r).length) (xs ++ Lib.runeCells r) ∧ ∃ o, (w.alloc o).grownBy w' v.ownBlock := by
  unfold okRune at hr
  by_cases c1 : r ≤ 2047
  · rw [show Lib.runeCells r = [.int .u8 (192 + r / 64), .int .u8 (128 + r % 64)] by simp [Lib.runeCells, Lib.encodeRuneZ_two (by omega) c1]]
    exact appendRune_two B v n xs r (by omega) c1 w hown hlen hBw
  by_cases c2 : r < 55296
  · rw [show Lib.runeCells r = [.int .u8 (224 + r / 4096), .int .u8 (128 + r / 64 % 64), .int .u8 (128 + r % 64)] by simp [Lib.runeCells, Lib.encodeRuneZ_three (Or.inl ⟨by omega, c2⟩)]]
    exact appendRune_lo B v n xs r (by omega) c2 w hown hlen hBw
  by_cases c4 : r ≤ 65535
  · rw [show Lib.runeCells r = [.int .u8 (224 + r / 4096), .int .u8 (128 + r / 64 % 64), .int .u8 (128 + r % 64)] by simp [Lib.runeCells, Lib.encodeRuneZ_three (Or.inr ⟨by omega, c4⟩)]]
    exact appendRune_hi B v n xs r (by omega) c4 w hown hlen hBw
  · rw [show Lib.runeCells r = [.int .u8 (240 + r / 262144), .int .u8 (128 + r / 4096 % 64), .int .u8 (128 + r / 64 % 64), .int .u8 (128 + r % 64)] by simp [Lib.runeCells, Lib.encodeRuneZ_four (r := r) (by omega) (by omega)]]
    exact appendRune_four B v n xs r (by omega) (by omega) w hown hlen hBw

set_option maxHeartbeats 4000000 in
set_option maxRecDepth 100000 in
theorem appendRune_any (B : Nat) (v : Value) (n : Nat) (xs : List Value) (r : Int) (hr : okRune r) (w : World) (hown : w.ownsRow B 5 1 v n xs) (hlen : n + 4 ≤ 140737488355328) (hBw : B ≤ w.heap.size) :
    Calls Tryz.prog 122 #[v, .int .i32 r] w fun e w' => ∃ v', e = .returned v' ∧ w'.ownsRow B 5 1 v' (n + (Lib.runeCells r).length) (xs ++ Lib.runeCells r) ∧ ∃ o, (w.alloc o).grownBy w' v.ownBlock := by
  obtain ⟨i0, hi, hz0, hz1, hz2⟩ := info_parts binfo
  have hr2 := hr
  unfold okRune at hr2
  by_cases c : r ≤ 127
  · rw [show Lib.runeCells r = [.int .u8 r] by simp [Lib.runeCells, Lib.encodeRuneZ_one (show 0 ≤ r by omega) c]]
    have h0 : 0 ≤ r := by omega
    clear hr hr2
    go_enter Tryz.func122, Tryz.ntmps122
    go_wp2_with (at_builtin; refine wpList_append_own _ rfl _ _ 78 rfl B 5 i0 (.int .u8 0) 1 1 Tryz.underlying78 hi hz0 hz1 hz2 rfl (by decide) _ _ _ rfl (hown.alloc _) ⟨w.heap.size, 0, none⟩ 1 1 [.int .u8 r] rfl rfl ?c1 ?c2 ?c3 ?c4 ?c5 ?_)
    all_goals first
      | (intro v' w2 hown' hgrow _; go_wp2; go_ret; exact ⟨_, rfl, hown', _, hgrow⟩)
      | (unfold maxLen; omega)
      | omega
      | (simp; omega)
      | rfl
      | (intro u hu; simp at hu; subst hu; rfl)
      | (intro j u hj
         match j, hj with
         | 0, hj => simp at hj; subst hj; simp [Addr.add]
         | (j + 1), hj => simp at hj)
  · have h := fun W ho hb => appendRune_other B v n xs r hr (by omega) W ho hlen hb
    have h0 : 128 ≤ r := by omega
    have h1 : r ≤ 1114111 := by omega
    clear hr hr2
    go_enter Tryz.func122, Tryz.ntmps122
    go_wp2_with fail
    refine (h _ hown hBw).mono ?_
    rintro e w1 ⟨v', rfl, h1, o, h2⟩
    go_wp2_with fail
    go_ret
    exact ⟨_, rfl, h1, o, h2⟩

section
variable {lo b o : Nat} {T : TypeId} {cs : Array Value} {v : Value} {bs : List UInt8} {w : World}
theorem runeCells_byte (r : Int) : Lib.runeCells r = Lib.byteCells (Lib.encodeRune r) := (Lib.byteCells_encodeRune r).symm
set_option maxHeartbeats 4000000 in
set_option maxRecDepth 100000 in
theorem bWriteRune (h : Bld lo b o T cs v bs w) (r : Int) (hr : okRune r) (hlen : bs.length + 4 ≤ 140737488355328) (hT : T ≠ 5) :
    Calls Tryz.prog 101 #[.pointer (some ⟨b, o, none⟩), .int .i32 r] w fun e w' => (∃ a, e = .returned a) ∧ Wrote lo b o T cs v bs (Lib.encodeRune r) w w' := by
  have hcc := copyCheck_any h
  go_enter Tryz.func101, Tryz.ntmps101
  go_wp2_with fail
  refine hcc.mono ?_
  rintro e w1 ⟨rfl, h1, hk, _, _⟩
  have c1 : w1.cell? ⟨b, o + 1, none⟩ = some v := (cellH h1.blk _).trans h1.q
  have hf1 := freeH h1.blk (o + 1)
  have har := appendRune_any lo v bs.length (Lib.byteCells bs) r hr w1 h1.row hlen h1.lo
  obtain ⟨va, vcap, hvv⟩ := h1.form
  have HVV := Lib.hid hvv
  subst hvv
  clear hcc
  go_wp2_with fail
  refine har.mono ?_
  rintro e w2 ⟨v', rfl, hown', x, hgrow⟩
  rw [runeCells_byte] at hown'
  have hend := wrote_end (new := Lib.encodeRune r) h h1 hk (by simpa [Lib.byteCells] using hown') ⟨x, .inl hgrow⟩ hT
  have hb2 : w2.heap[b]? = some (.cells (cs.setIfInBounds o (.pointer (some ⟨b, o, none⟩))) T (0, 0)) := by
    have hb1 := lt_some h1.blk
    rw [hgrow.block b (by simp; omega) (fun e => h1.ne e.symm), Lib.alloc_old w1 _ b hb1]
    exact h1.blk
  have d1 : w2.cell? ⟨b, o + 1, none⟩ = some (.slice va bs.length vcap) := (cellH hb2 _).trans h1.q
  have f1 := freeH hb2 (o + 1)
  have d2 : (w2.setCell ⟨b, o + 1, none⟩ v').cell? ⟨b, o + 1, none⟩ = some v' := World.cell?_setCell_same _ _ _ d1
  obtain ⟨ao, n', cap, rfl⟩ : ∃ ao n' cap, v' = .slice ao n' cap := by
    rcases hown'.2 with ⟨hv, _⟩ | ⟨g, cap, cur, hv, _⟩
    · exact ⟨_, _, _, hv⟩
    · exact ⟨_, _, _, hv⟩
  have HE := Lib.hid hend
  clear hend hown' hgrow har
  go_wp2_with fail
  go_ret2
  exact ⟨⟨_, rfl⟩, HE.out⟩
set_option maxRecDepth 100000 in
theorem bLen (h : Bld lo b o T cs v bs w) :
    Calls Tryz.prog 36 #[.pointer (some ⟨b, o, none⟩)] w fun e w' => e = .returned (.int .i64 bs.length) ∧ w = w' := by
  obtain ⟨ao, cap, rfl⟩ := h.form
  have c1 : w.cell? ⟨b, o + 1, none⟩ = some (.slice ao bs.length cap) := (cellH h.blk _).trans h.q
  go_enter Tryz.func36, Tryz.ntmps36
  go_wp2_with fail
  go_ret
  exact ⟨rfl, rfl⟩
set_option maxRecDepth 100000 in
theorem bReset (h : Bld lo b o T cs v bs w) :
    Calls Tryz.prog 99 #[.pointer (some ⟨b, o, none⟩)] w fun e w' => e = .returned (.tuple #[]) ∧ (w.setCell ⟨b, o, none⟩ (.pointer none)).setCell ⟨b, o + 1, none⟩ (.slice none 0 0) = w' := by
  obtain ⟨ao, cap, rfl⟩ := h.form
  have c1 : w.cell? ⟨b, o + 1, none⟩ = some (.slice ao bs.length cap) := (cellH h.blk _).trans h.q
  have f0 := freeH h.blk o
  have f1 := freeH h.blk (o + 1)
  have hlt := h.lt
  obtain ⟨c0v, c0⟩ : ∃ x, w.cell? ⟨b, o, none⟩ = some x := ⟨cs[o]'(by omega), (cellH h.blk _).trans (Array.getElem?_eq_getElem (by omega))⟩
  clear hlt
  go_enter Tryz.func99, Tryz.ntmps99
  go_wp2_with fail
  go_end0
  exact ⟨rfl, rfl⟩
/-- All but the buffer's own block is as it was. -/
structure KeepV (v : Value) (w w' : World) : Prop where
  os : w'.os = w.os
  tape : w'.tape = w.tape
  output : w'.output = w.output
  size : w.heap.size ≤ w'.heap.size
  block : ∀ k, k < w.heap.size → v.ownBlock ≠ some k → w'.heap[k]? = w.heap[k]?
theorem KeepV.freeze (w : World) (g n m c : Nat) : KeepV (.slice (some ⟨g, 0, none⟩) m c) w (w.freeze ⟨g, 0, none⟩ n) := by
  unfold World.freeze
  split
  · exact ⟨rfl, rfl, rfl, Nat.le_refl _, fun _ _ _ => rfl⟩
  · exact ⟨rfl, rfl, rfl, by simp, fun k _ hn => by
      simp only [Array.getElem?_modify]
      rw [if_neg (fun e => hn (by subst e; rfl))]⟩
theorem KeepV.drewN {v : Value} {w w' : World} (h : KeepV v w.drew w') : KeepV v w w' := ⟨h.os, h.tape, h.output, h.size, h.block⟩
theorem bCells : Tryz.prog.cellsOf 5 = 1 := by kernel_rfl
set_option maxHeartbeats 2000000 in
set_option maxRecDepth 100000 in
theorem bString (h : Bld lo b o T cs v bs w) :
    Calls Tryz.prog 37 #[.pointer (some ⟨b, o, none⟩)] w fun e w' => e = .returned (.string ⟨bs.toArray⟩) ∧ KeepV v w w' := by
  have c1w : w.cell? ⟨b, o + 1, none⟩ = some v := (cellH h.blk _).trans h.q
  have c1 : w.drew.cell? ⟨b, o + 1, none⟩ = some v := c1w
  have hrow := h.row
  have hblk := h.blk
  have hUS : ∀ (W : World) (q : Option Addr), (Builtin.unsafeString_ #[118, 3] 9 #[.pointer q, .int .i64 0]).run Tryz.prog W = .ok (.string .empty) W := fun W q => Lib.run_unsafeString_none W _ _ _ q
  by_cases h0 : bs = []
  · subst h0
    rcases hrow.2 with ⟨rfl, _⟩ | ⟨g, cap, cur, rfl, hg, hh, hcap, _⟩
    · have hSD : (Builtin.unsafeSliceData_ #[78] 118 #[.slice none 0 0]).run Tryz.prog w.drew = .ok (.pointer none) w.drew := rfl
      clear h hrow hblk
      go_enter Tryz.func37, Tryz.ntmps37
      go_wp2_with fail
      go_region
      all_goals (go_wp2_with fail; go_ret; exact ⟨rfl, ⟨rfl, rfl, rfl, Nat.le_refl _, fun _ _ _ => rfl⟩⟩)
    · by_cases hc0 : cap = 0
      · subst hc0
        have hSD : (Builtin.unsafeSliceData_ #[78] 118 #[.slice (some ⟨g, 0, none⟩) 0 0]).run Tryz.prog w.drew = .ok (.pointer (some ⟨w.drew.heap.size, 0, none⟩)) (w.drew.alloc (.view ⟨g, 0, none⟩ 5)) :=
          Lib.run_unsafeSliceData_zero w.drew _ _ 5 Tryz.underlying118 ⟨g, 0, none⟩ 0 (5, cur.size) (by have hg' : w.drew.heap[g]? = some (.cells cur 5 (0, 0)) := hh; simp [World.shape?, hg'])
        have hlt := lt_some hblk
        have c2 : (w.drew.alloc (.view ⟨g, 0, none⟩ 5)).cell? ⟨b, o + 1, none⟩ = some (.slice (some ⟨g, 0, none⟩) 0 0) := by
          have : (w.drew.alloc (.view ⟨g, 0, none⟩ 5)).heap[b]? = _ := (Lib.alloc_old w.drew _ b hlt).trans hblk
          rw [Lib.cell_of_heap this]; exact h.q
        have c3 : (w.alloc (.view ⟨g, 0, none⟩ 5)).drew.cell? ⟨b, o + 1, none⟩ = some (.slice (some ⟨g, 0, none⟩) 0 0) := c2
        have hkv : KeepV (.slice (some ⟨g, 0, none⟩) 0 0) w (w.drew.alloc (.view ⟨g, 0, none⟩ 5)) := ⟨rfl, rfl, rfl, by simp, fun k hk _ => Lib.alloc_old w.drew _ k hk⟩
        have HKV := Lib.hid hkv
        clear h hrow hblk hh hlt hkv
        go_enter Tryz.func37, Tryz.ntmps37
        go_wp2_with fail
        go_region
        all_goals (go_wp2_with fail; go_ret; exact ⟨rfl, HKV.out⟩)
      · have hSD : (Builtin.unsafeSliceData_ #[78] 118 #[.slice (some ⟨g, 0, none⟩) 0 cap]).run Tryz.prog w.drew = .ok (.pointer (some ⟨g, 0, none⟩)) w.drew :=
          Lib.run_unsafeSliceData_row _ _ _ _ _ _ hc0
        clear h hrow hblk hh hc0
        go_enter Tryz.func37, Tryz.ntmps37
        go_wp2_with fail
        go_region
        all_goals (go_wp2_with fail; go_ret; exact ⟨rfl, ⟨rfl, rfl, rfl, Nat.le_refl _, fun _ _ _ => rfl⟩⟩)
  · have hl0 : bs.length ≠ 0 := by simpa using h0
    obtain ⟨g, cap, cur, rfl, hg, hh, hnc, hcm, hcs, htake⟩ : ∃ g cap cur, v = .slice (some ⟨g, 0, none⟩) bs.length cap ∧ lo ≤ g ∧ w.heap[g]? = some (.cells cur 5 (0, 0)) ∧ bs.length ≤ cap ∧ cap ≤ maxLen ∧ cur.size = cap * 1 ∧ cur.toList.take (bs.length * 1) = Lib.byteCells bs := by
      rcases hrow.2 with ⟨_, hz⟩ | ⟨g, cap, cur, hv, r⟩
      · exact absurd hz hl0
      · exact ⟨g, cap, cur, hv, r⟩
    have hSD : (Builtin.unsafeSliceData_ #[78] 118 #[.slice (some ⟨g, 0, none⟩) bs.length cap]).run Tryz.prog w.drew = .ok (.pointer (some ⟨g, 0, none⟩)) w.drew :=
      Lib.run_unsafeSliceData_row _ _ _ _ _ _ (by omega)
    have hUS2 : (Builtin.unsafeString_ #[118, 3] 9 #[.pointer (some ⟨g, 0, none⟩), .int .i64 bs.length]).run Tryz.prog w.drew = .ok (.string ⟨bs.toArray⟩) (w.drew.freeze ⟨g, 0, none⟩ bs.length) := by
      refine Lib.run_unsafeString_row w.drew 118 3 9 5 Tryz.underlying118 bCells g cur.size (by have hg' : w.drew.heap[g]? = some (.cells cur 5 (0, 0)) := hh; simp [World.shape?, hg']) bs h0 (by omega) (by unfold maxLen at hcm; omega) ?_
      intro j x hx
      have := hrow.cells (g := g) rfl j (.int .u8 x.toNat) (by simp [Lib.byteCells, hx])
      exact this
    have hkv := (KeepV.freeze w.drew g bs.length bs.length cap).drewN
    have HKV := Lib.hid hkv
    clear h hrow hblk hh hnc hcm hcs htake hl0 h0 hUS hkv
    go_enter Tryz.func37, Tryz.ntmps37
    go_wp2_with fail
    go_region
    all_goals (go_wp2_with fail; go_ret; exact ⟨rfl, HKV.out⟩)
end
end

section
open Go.RowKit Go.PlainAid

/-- The walk is ended: what is wrong, and where. -/
abbrev Died (e a : Int) : Ending := .panicked [{ v := .iface 93 (.agg #[.int .i64 e, .int .i64 a]), recovered := false }]
/-- The reader's own block. -/
def BlkR (w : World) (rb : Nat) (cs : Array Value) : Prop := w.heap[rb]? = some (.cells cs 97 (0, 0))
theorem BlkR.cell {w : World} {b : Nat} {cs : Array Value} (h : BlkR w b cs) (o : Nat) : w.cell? ⟨b, o, none⟩ = cs[o]? := cellH h o
theorem BlkR.free {w : World} {b : Nat} {cs : Array Value} (h : BlkR w b cs) (o : Nat) : w.frozen? ⟨b, o, none⟩ = false := freeH h o
theorem BlkR.lt' {w : World} {b : Nat} {cs : Array Value} (h : BlkR w b cs) : b < w.heap.size := lt_some h
theorem BlkR.on {w w' : World} {b : Nat} {cs : Array Value} (h : BlkR w b cs) (hB : Below w.heap.size w w') : BlkR w' b cs := (hB.block b h.lt').trans h
theorem BlkR.set {w : World} {b : Nat} {cs : Array Value} (h : BlkR w b cs) (i : Nat) (v : Value) : BlkR (w.setCell ⟨b, i, none⟩ v) b (cs.setIfInBounds i v) := setH h i v
/-- A reader in memory: its text, its place. -/
structure Rdr (rb : Nat) (s : ByteArray) (at_ : Nat) (cs : Array Value) (w : World) : Prop where
  blk : BlkR w rb cs
  c0 : cs[0]? = some (.string s)
  c1 : cs[1]? = some (.int .i64 (at_ : Int))
section
variable {rb : Nat} {s : ByteArray} {at_ : Nat} {cs : Array Value} {w : World}
theorem Rdr.cell0 (h : Rdr rb s at_ cs w) : w.cell? ⟨rb, 0, none⟩ = some (.string s) := (h.blk.cell 0).trans h.c0
theorem Rdr.cell1 (h : Rdr rb s at_ cs w) : w.cell? ⟨rb, 1, none⟩ = some (.int .i64 (at_ : Int)) := (h.blk.cell 1).trans h.c1
theorem Rdr.on (h : Rdr rb s at_ cs w) {w' : World} (hB : Below w.heap.size w w') : Rdr rb s at_ cs w' := ⟨h.blk.on hB, h.c0, h.c1⟩
theorem Rdr.set (h : Rdr rb s at_ cs w) (a : Nat) : Rdr rb s a (cs.setIfInBounds 1 (.int .i64 (a : Int))) (w.setCell ⟨rb, 1, none⟩ (.int .i64 (a : Int))) := by
  have hlt : 1 < cs.size := (Array.getElem?_eq_some_iff.1 h.c1).1
  exact ⟨h.blk.set 1 _, by rw [Array.getElem?_setIfInBounds_ne (by omega)]; exact h.c0, Array.getElem?_setIfInBounds_self_of_lt hlt⟩
end
theorem set_twice (cs : Array Value) (a b : Value) : (cs.setIfInBounds 1 a).setIfInBounds 1 b = cs.setIfInBounds 1 b := Array.setIfInBounds_setIfInBounds _

set_option maxRecDepth 100000 in
theorem fail_any (p : Value) (e a : Int) (w : World) : Calls Tryz.prog 67 #[p, .int .i64 e, .int .i64 a] w fun en w' => en = Died e a ∧ w = w' := by
  go_enter Tryz.func67, Tryz.ntmps67
  go_wp2_with fail
  exact ⟨rfl, rfl, rfl⟩
set_option maxRecDepth 100000 in
theorem want_yes (p : Value) (w : World) : Calls Tryz.prog 43 #[p, .bool true] w fun en w' => en = .returned (.tuple #[]) ∧ w = w' := by
  go_enter Tryz.func43, Tryz.ntmps43
  go_wp2_with fail
  go_end0
  exact ⟨rfl, rfl⟩
set_option maxRecDepth 100000 in
theorem want_no {rb : Nat} {s : ByteArray} {at_ : Nat} {cs : Array Value} {w : World} (h : Rdr rb s at_ cs w) : Calls Tryz.prog 43 #[.pointer (some ⟨rb, 0, none⟩), .bool false] w fun en w' => en = Died 140 at_ ∧ w = w' := by
  have c1 := h.cell1
  have hf := fail_any (.pointer (some ⟨rb, 0, none⟩)) 140 (at_ : Int) w
  go_enter Tryz.func43, Tryz.ntmps43
  go_wp2_with fail
  refine hf.mono ?_
  rintro e w' ⟨rfl, rfl⟩
  go_wp2_with fail
  exact ⟨rfl, rfl, rfl⟩
set_option maxRecDepth 100000 in
set_option maxHeartbeats 1000000 in
theorem next_any {rb : Nat} {s : ByteArray} {at_ : Nat} {cs : Array Value} {w : World} (h : Rdr rb s at_ cs w) (ha : at_ ≤ s.size) :
    Calls Tryz.prog 45 #[.pointer (some ⟨rb, 0, none⟩)] w fun en w' => en = .returned (.int .u8 (bt s at_)) ∧ Below w.heap.size w w' := by
  have c0 := h.cell0
  have c1 := h.cell1
  have hb := get_bt s
  have h0 : (0 : Int) ≤ at_ := by omega
  have hB := Below.refl w.heap.size w
  by_cases hlt : at_ < s.size
  · have hI : (at_ : Int) < s.size := by omega
    have HR := Lib.hid h
    clear h
    go_enter Tryz.func45, Tryz.ntmps45
    go_upto_region 1 with fail
    go_quiet (fail)
    have hB1 := bdN0 hB nq
    have c0 := (HR.out.on hB1).cell0
    have c1 := (HR.out.on hB1).cell1
    generalize w.drewN nq = w1 at *
    go_upto_region 2 with fail
    go_quiet (fail)
    go_wp2_with fail
    go_ret
    exact ⟨rfl, bdN0 hB1 nq⟩
  · have hI : ¬ (at_ : Int) < s.size := by omega
    have e0 : bt s at_ = 0 := bt_end s (by omega)
    rw [e0]
    clear h hb e0
    go_enter Tryz.func45, Tryz.ntmps45
    go_upto_region 1 with fail
    go_quiet (fail)
    go_wp2_with fail
    go_ret
    exact ⟨rfl, bdN0 hB nq⟩
end

section
open Go.RowKit Go.PlainAid

/-- The reader has moved; else all below is as it was. -/
def Moved (rb : Nat) (s : ByteArray) (cs : Array Value) (w : World) (p : Nat) (w' : World) : Prop := Rdr rb s p (cs.setIfInBounds 1 (.int .i64 (p : Int))) w' ∧ KeepX w.heap.size rb w w'
theorem Rdr.self {rb : Nat} {s : ByteArray} {at_ : Nat} {cs : Array Value} {w : World} (h : Rdr rb s at_ cs w) : cs.setIfInBounds 1 (.int .i64 (at_ : Int)) = cs := by
  have h1 := h.c1
  apply Array.ext
  · simp
  · intro i h2 h3
    rw [Array.getElem_setIfInBounds]
    split
    · rename_i e
      subst e
      rw [Array.getElem?_eq_getElem h3] at h1
      exact (Option.some.inj h1).symm
    · rfl
theorem Rdr.moved {rb : Nat} {s : ByteArray} {at_ : Nat} {cs : Array Value} {w w' : World} (h : Rdr rb s at_ cs w) (hB : Below w.heap.size w w') : Moved rb s cs w at_ w' := ⟨by rw [h.self]; exact h.on hB, KeepX.of hB (Nat.le_refl _)⟩
theorem Moved.on {rb : Nat} {s : ByteArray} {cs : Array Value} {w w1 w2 : World} {p : Nat} (h : Moved rb s cs w p w1) (hB : Below w1.heap.size w1 w2) : Moved rb s cs w p w2 := ⟨h.1.on hB, h.2.on hB (Nat.le_refl _)⟩
theorem Moved.set {rb : Nat} {s : ByteArray} {cs : Array Value} {w w1 : World} {p : Nat} (h : Moved rb s cs w p w1) (q : Nat) : Moved rb s cs w q (w1.setCell ⟨rb, 1, none⟩ (.int .i64 (q : Int))) := by
  have h1 := h.1.set q
  rw [set_twice] at h1
  exact ⟨h1, h.2.setCell _ _⟩
theorem Moved.trans {rb : Nat} {s : ByteArray} {cs : Array Value} {w w1 w2 : World} {p q : Nat} (h : Moved rb s cs w p w1) (k : Moved rb s (cs.setIfInBounds 1 (.int .i64 (p : Int))) w1 q w2) : Moved rb s cs w q w2 := by
  have h1 := k.1
  rw [set_twice] at h1
  exact ⟨h1, h.2.trans (k.2.mono h.2.size)⟩
theorem blkF_ge (s : ByteArray) : ∀ f p, p ≤ blkF s f p ∧ blkF s f p ≤ p + f
  | 0, p => ⟨Nat.le_refl _, Nat.le_refl _⟩
  | f + 1, p => by
    unfold blkF
    split
    · have := blkF_ge s f (p + 1)
      omega
    · omega
theorem blk_ge (s : ByteArray) (p : Nat) : p ≤ blk s p := (blkF_ge s _ p).1
theorem blk_le (s : ByteArray) (p : Nat) (h : p ≤ s.size) : blk s p ≤ s.size := by
  have := (blkF_ge s (s.size - p) p).2
  unfold blk
  omega

set_option maxRecDepth 100000 in
set_option maxHeartbeats 4000000 in
theorem blanks_any {rb : Nat} {s : ByteArray} {at_ : Nat} {cs : Array Value} {w : World} (h : Rdr rb s at_ cs w) (ha : at_ ≤ s.size) (hz : s.size ≤ 1000000000000000) :
    Calls Tryz.prog 68 #[.pointer (some ⟨rb, 0, none⟩)] w fun en w' => en = .returned (.bool (decide (at_ < blk s at_))) ∧ Moved rb s cs w (blk s at_) w' := by
  have c1 := h.cell1
  have HH := Lib.hid h
  clear h
  go_enter Tryz.func68, Tryz.ntmps68
  go_wp2_with fail
  clear c1
  go_loopg [] (s.size + 1 - at_) (fun f wx => ∃ p : Nat, f + p = s.size + 1 ∧ p ≤ s.size ∧ blk s at_ = blkF s (s.size - p) p ∧ Moved rb s cs w p wx)
  case atStart => exact ⟨at_, by omega, ha, rfl, HH.out.moved (Below.refl _ _)⟩
  case round =>
    obtain ⟨p, hg, hp, hb, hM⟩ := hrel
    have HG := Lib.hid hg; have HB := Lib.hid hb; have HM := Lib.hid hM
    have hp0 : (0 : Int) ≤ p := by omega
    have f1 : IntKind.i64.wrap ((p : Int) + 1) = (p : Int) + 1 := IntWalk.i64_in _ (by omega)
    have hSd : wr.drew.cell? ⟨rb, 0, none⟩ = some (Value.string s) ∧ wr.drew.cell? ⟨rb, 1, none⟩ = some (Value.int .i64 (p : Int)) ∧ Below wr.heap.size wr wr.drew :=
      ⟨(hM.1.on (Below.refl _ _).drew).cell0, (hM.1.on (Below.refl _ _).drew).cell1, (Below.refl _ _).drew⟩
    have hMd := hM.on (Below.refl wr.heap.size wr).drew
    by_cases hlt : p < s.size
    · have hI : (p : Int) < s.size := by omega
      have hbt := get_bt s
      have hb0 := bt_nonneg s p
      have hb1 : bt s p < 256 := by have := bt_le s p; omega
      cases hbl : bBlank (bt s p) with
      | true =>
        have hstep : blk s at_ = blkF s (s.size - (p + 1)) (p + 1) := by
          rw [hb, show s.size - p = (s.size - (p + 1)) + 1 by omega]
          conv => lhs; unfold blkF
          rw [if_pos hbl]
        have HST := Lib.hid hstep; have HLT := Lib.hid hlt
        have hMs := hMd.set (p + 1)
        have HMS := Lib.hid hMs
        have d1 := hMd.1.cell1
        have d0 := hMd.1.blk.free 1
        clear hstep hb hg hM hMs hlt
        rw [show (p : Int) + 1 = ((p + 1 : Nat) : Int) by omega] at f1
        go_upto_region 2 with fail
        refine wp_region_held_drew (S := fun w' => w'.cell? ⟨rb, 0, none⟩ = some (Value.string s) ∧ w'.cell? ⟨rb, 1, none⟩ = some (Value.int .i64 (p : Int)) ∧ Below wr.heap.size wr w') (by kernel_rfl) (hSd) (fun hHeld => ?_)
        refine wpAnyH_take (i := 0) (v := ?_) rfl (by kernel_rfl) (by kernel_rfl) (by kernel_rfl) (fun _ _ _ h => h) (Or.inl ⟨by rfl, ?_⟩) hHeld ?_
        rotate_left
        · intro w hSw; (try dsimp only at hSw); first | (go_simp; done) | (go_simp; with_reducible rfl)
        try simp only [Act.put, List.setIfInBounds_toArray, List.set_cons_zero, List.set_cons_succ, List.getElem_toArray, List.getElem_cons_zero]
        refine wpAnyH_take (i := 1) (v := ?_) rfl (by kernel_rfl) (by kernel_rfl) (by kernel_rfl) (fun _ _ _ h => h) (Or.inl ⟨by rfl, ?_⟩) hHeld ?_
        rotate_left
        · intro w hSw; (try dsimp only at hSw); first | (go_simp; done) | (go_simp; with_reducible rfl)
        try simp only [Act.put, List.setIfInBounds_toArray, List.set_cons_zero, List.set_cons_succ, List.getElem_toArray, List.getElem_cons_zero, List.getElem_cons_succ]
        refine wpAnyH_take (i := 2) (v := ?_) rfl (by kernel_rfl) (by kernel_rfl) (by kernel_rfl) (fun _ _ _ h => h) (Or.inl ⟨by rfl, ?_⟩) hHeld ?_
        rotate_left
        · intro w hSw; (try dsimp only at hSw); first | (go_simp; done) | (go_simp; with_reducible rfl)
        try simp only [Act.put, List.setIfInBounds_toArray, List.set_cons_zero, List.set_cons_succ, List.getElem_toArray, List.getElem_cons_zero, List.getElem_cons_succ]
        refine wpAnyH_take (i := 3) (v := ?_) rfl (by kernel_rfl) (by kernel_rfl) (by kernel_rfl) (fun _ _ _ h => h) (Or.inl ⟨by rfl, ?_⟩) hHeld ?_
        rotate_left
        · intro w hSw; (try dsimp only at hSw); first | (go_simp; done) | (go_simp; with_reducible rfl)
        try simp only [Act.put, List.setIfInBounds_toArray, List.set_cons_zero, List.set_cons_succ, List.getElem_toArray, List.getElem_cons_zero, List.getElem_cons_succ]
        refine wpAnyH_take (i := 4) (v := ?_) rfl (by kernel_rfl) (by kernel_rfl) (by kernel_rfl) (fun _ _ _ h => h) (Or.inl ⟨by rfl, ?_⟩) hHeld ?_
        rotate_left
        · intro w hSw; (try dsimp only at hSw); first | (go_simp; done) | (go_simp; with_reducible rfl)
        try simp only [Act.put, List.setIfInBounds_toArray, List.set_cons_zero, List.set_cons_succ, List.getElem_toArray, List.getElem_cons_zero, List.getElem_cons_succ]
        refine wpAnyH_take (i := 5) (v := ?_) rfl (by kernel_rfl) (by kernel_rfl) (by kernel_rfl) (fun _ _ _ h => h) (Or.inl ⟨by rfl, ?_⟩) hHeld ?_
        rotate_left
        · intro w hSw; (try dsimp only at hSw); first | (go_simp; done) | (go_simp; with_reducible rfl)
        try simp only [Act.put, List.setIfInBounds_toArray, List.set_cons_zero, List.set_cons_succ, List.getElem_toArray, List.getElem_cons_zero, List.getElem_cons_succ]
        refine wpAnyH_take (i := 6) (v := ?_) rfl (by kernel_rfl) (by kernel_rfl) (by kernel_rfl) (fun _ _ _ h => h) (Or.inl ⟨by rfl, ?_⟩) hHeld ?_
        rotate_left
        · intro w hSw; (try dsimp only at hSw); first | (go_simp; done) | (go_simp; with_reducible rfl)
        try simp only [Act.put, List.setIfInBounds_toArray, List.set_cons_zero, List.set_cons_succ, List.getElem_toArray, List.getElem_cons_zero, List.getElem_cons_succ]
        refine wpAnyH_take (i := 7) (v := ?_) rfl (by kernel_rfl) (by kernel_rfl) (by kernel_rfl) (fun _ _ _ h => h) (Or.inl ⟨by rfl, ?_⟩) hHeld ?_
        rotate_left
        · intro w hSw; (try dsimp only at hSw); first | (go_simp; done) | (go_simp; with_reducible rfl)
        try simp only [Act.put, List.setIfInBounds_toArray, List.set_cons_zero, List.set_cons_succ, List.getElem_toArray, List.getElem_cons_zero, List.getElem_cons_succ]
        refine wpAnyH_take (i := 8) (v := ?_) rfl (by kernel_rfl) (by kernel_rfl) (by kernel_rfl) (fun _ _ _ h => h) (Or.inl ⟨by rfl, ?_⟩) hHeld ?_
        rotate_left
        · intro w hSw; (try dsimp only at hSw); first | (go_simp; done) | (go_simp; with_reducible rfl)
        try simp only [Act.put, List.setIfInBounds_toArray, List.set_cons_zero, List.set_cons_succ, List.getElem_toArray, List.getElem_cons_zero, List.getElem_cons_succ]
        refine wpAnyH_take (i := 9) (v := ?_) rfl (by kernel_rfl) (by kernel_rfl) (by kernel_rfl) (fun _ _ _ h => h) (Or.inl ⟨by rfl, ?_⟩) hHeld ?_
        rotate_left
        · intro w hSw; (try dsimp only at hSw); first | (go_simp; done) | (go_simp; with_reducible rfl)
        try simp only [Act.put, List.setIfInBounds_toArray, List.set_cons_zero, List.set_cons_succ, List.getElem_toArray, List.getElem_cons_zero, List.getElem_cons_succ]
        refine wpAnyH_take (i := 10) (v := ?_) rfl (by kernel_rfl) (by kernel_rfl) (by kernel_rfl) (fun _ _ _ h => h) (Or.inl ⟨by rfl, ?_⟩) hHeld ?_
        rotate_left
        · intro w hSw; (try dsimp only at hSw); first | (go_simp; done) | (go_simp; with_reducible rfl)
        try simp only [Act.put, List.setIfInBounds_toArray, List.set_cons_zero, List.set_cons_succ, List.getElem_toArray, List.getElem_cons_zero, List.getElem_cons_succ]
        refine wpAnyH_take (i := 11) (v := ?_) rfl (by kernel_rfl) (by kernel_rfl) (by kernel_rfl) (fun _ _ _ h => h) (Or.inl ⟨by rfl, ?_⟩) hHeld ?_
        rotate_left
        · intro w hSw; (try dsimp only at hSw); first | (go_simp; done) | (go_simp; with_reducible rfl)
        try simp only [Act.put, List.setIfInBounds_toArray, List.set_cons_zero, List.set_cons_succ, List.getElem_toArray, List.getElem_cons_zero, List.getElem_cons_succ]
        refine wpAnyH_take (i := 12) (v := ?_) rfl (by kernel_rfl) (by kernel_rfl) (by kernel_rfl) (fun _ _ _ h => h) (Or.inl ⟨by rfl, ?_⟩) hHeld ?_
        rotate_left
        · intro w hSw; (try dsimp only at hSw); first | (go_simp; done) | (go_simp; with_reducible rfl)
        try simp only [Act.put, List.setIfInBounds_toArray, List.set_cons_zero, List.set_cons_succ, List.getElem_toArray, List.getElem_cons_zero, List.getElem_cons_succ]
        refine wpAnyH_take (i := 13) (v := ?_) rfl (by kernel_rfl) (by kernel_rfl) (by kernel_rfl) (fun _ _ _ h => h) (Or.inl ⟨by rfl, ?_⟩) hHeld ?_
        rotate_left
        · intro w hSw; (try dsimp only at hSw); first | (go_simp; done) | (go_simp; with_reducible rfl)
        try simp only [Act.put, List.setIfInBounds_toArray, List.set_cons_zero, List.set_cons_succ, List.getElem_toArray, List.getElem_cons_zero, List.getElem_cons_succ]
        refine wpAnyH_take (i := 14) (v := ?_) rfl (by kernel_rfl) (by kernel_rfl) (by kernel_rfl) (fun _ _ _ h => h) (Or.inl ⟨by rfl, ?_⟩) hHeld ?_
        rotate_left
        · intro w hSw; (try dsimp only at hSw); first | (go_simp; done) | (go_simp; with_reducible rfl)
        try simp only [Act.put, List.setIfInBounds_toArray, List.set_cons_zero, List.set_cons_succ, List.getElem_toArray, List.getElem_cons_zero, List.getElem_cons_succ]
        refine wpAnyH_take (i := 15) (v := ?_) rfl (by kernel_rfl) (by kernel_rfl) (by kernel_rfl) (fun _ _ _ h => h) (Or.inl ⟨by rfl, ?_⟩) hHeld ?_
        rotate_left
        · intro w hSw; (try dsimp only at hSw); first | (go_simp; done) | (go_simp; with_reducible rfl)
        try simp only [Act.put, List.setIfInBounds_toArray, List.set_cons_zero, List.set_cons_succ, List.getElem_toArray, List.getElem_cons_zero, List.getElem_cons_succ]
        refine wpAnyH_take (i := 16) (v := ?_) rfl (by kernel_rfl) (by kernel_rfl) (by kernel_rfl) (fun _ _ _ h => h) (Or.inl ⟨by rfl, ?_⟩) hHeld ?_
        rotate_left
        · intro w hSw; (try dsimp only at hSw); first | (go_simp; done) | (go_simp; with_reducible rfl)
        try simp only [Act.put, List.setIfInBounds_toArray, List.set_cons_zero, List.set_cons_succ, List.getElem_toArray, List.getElem_cons_zero, List.getElem_cons_succ]
        refine wpAnyH_take (i := 17) (v := ?_) rfl (by kernel_rfl) (by kernel_rfl) (by kernel_rfl) (fun _ _ _ h => h) (Or.inl ⟨by rfl, ?_⟩) hHeld ?_
        rotate_left
        · intro w hSw; (try dsimp only at hSw); first | (go_simp; done) | (go_simp; with_reducible rfl)
        try simp only [Act.put, List.setIfInBounds_toArray, List.set_cons_zero, List.set_cons_succ, List.getElem_toArray, List.getElem_cons_zero, List.getElem_cons_succ]
        refine wpAnyH_take (i := 18) (v := ?_) rfl (by kernel_rfl) (by kernel_rfl) (by kernel_rfl) (fun _ _ _ h => h) (Or.inl ⟨by rfl, ?_⟩) hHeld ?_
        rotate_left
        · intro w hSw; (try dsimp only at hSw); first | (go_simp; done) | (go_simp; with_reducible rfl)
        try simp only [Act.put, List.setIfInBounds_toArray, List.set_cons_zero, List.set_cons_succ, List.getElem_toArray, List.getElem_cons_zero, List.getElem_cons_succ]
        refine wpAnyH_take (i := 19) (v := ?_) rfl (by kernel_rfl) (by kernel_rfl) (by kernel_rfl) (fun _ _ _ h => h) (Or.inl ⟨by rfl, ?_⟩) hHeld ?_
        rotate_left
        · intro w hSw; (try dsimp only at hSw); first | (go_simp; done) | (go_simp; with_reducible rfl)
        try simp only [Act.put, List.setIfInBounds_toArray, List.set_cons_zero, List.set_cons_succ, List.getElem_toArray, List.getElem_cons_zero, List.getElem_cons_succ]
        refine wpAnyH_ready (rs := [20]) (by kernel_rfl) (by simp) ?_
        refine AllReadyH.cons rfl (fun K hK => ?_) AllReadyH.nil
        go_simp
        go_wp2_with (go_at_call 94; refine (blank_any _ hb0 hb1 _).mono ?_; rintro e wy ⟨rfl, rfl⟩)
        refine hK.out _ _ (hSd) (fun hHeld => ?_)
        clear hK K
        refine wpAnyH_take (i := 21) (v := ?_) rfl (by kernel_rfl) (by kernel_rfl) (by kernel_rfl) (fun _ _ _ h => h) (Or.inl ⟨by rfl, ?_⟩) hHeld ?_
        rotate_left
        · intro w hSw; (try dsimp only at hSw); first | (go_simp; done) | (go_simp; with_reducible rfl)
        try simp only [Act.put, List.setIfInBounds_toArray, List.set_cons_zero, List.set_cons_succ, List.getElem_toArray, List.getElem_cons_zero, List.getElem_cons_succ]
        refine wpAnyH_done (by kernel_rfl) ?_ _
        clear hHeld hSd hbt hbl
        generalize wr.drew = w4 at *
        go_wp2_with fail
        go_roundg (s.size - p)
        case rel => exact ⟨p + 1, by have := HG.out; have := HLT.out; omega, HLT.out, HST.out, HMS.out⟩
        case measure => have := HG.out; have := HLT.out; omega
      | false =>
        have hres : blk s at_ = p := by
          rw [hb, show s.size - p = (s.size - (p + 1)) + 1 by omega]
          conv => lhs; unfold blkF
          rw [if_neg (by rw [hbl]; simp)]
        have HR := Lib.hid hres
        have d1 := hMd.1.cell1
        have HMD := Lib.hid hMd
        clear hres hb hg hM hlt hMd
        go_upto_region 2 with fail
        refine wp_region_held_drew (S := fun w' => w'.cell? ⟨rb, 0, none⟩ = some (Value.string s) ∧ w'.cell? ⟨rb, 1, none⟩ = some (Value.int .i64 (p : Int)) ∧ Below wr.heap.size wr w') (by kernel_rfl) (hSd) (fun hHeld => ?_)
        refine wpAnyH_take (i := 0) (v := ?_) rfl (by kernel_rfl) (by kernel_rfl) (by kernel_rfl) (fun _ _ _ h => h) (Or.inl ⟨by rfl, ?_⟩) hHeld ?_
        rotate_left
        · intro w hSw; (try dsimp only at hSw); first | (go_simp; done) | (go_simp; with_reducible rfl)
        try simp only [Act.put, List.setIfInBounds_toArray, List.set_cons_zero, List.set_cons_succ, List.getElem_toArray, List.getElem_cons_zero]
        refine wpAnyH_take (i := 1) (v := ?_) rfl (by kernel_rfl) (by kernel_rfl) (by kernel_rfl) (fun _ _ _ h => h) (Or.inl ⟨by rfl, ?_⟩) hHeld ?_
        rotate_left
        · intro w hSw; (try dsimp only at hSw); first | (go_simp; done) | (go_simp; with_reducible rfl)
        try simp only [Act.put, List.setIfInBounds_toArray, List.set_cons_zero, List.set_cons_succ, List.getElem_toArray, List.getElem_cons_zero, List.getElem_cons_succ]
        refine wpAnyH_take (i := 2) (v := ?_) rfl (by kernel_rfl) (by kernel_rfl) (by kernel_rfl) (fun _ _ _ h => h) (Or.inl ⟨by rfl, ?_⟩) hHeld ?_
        rotate_left
        · intro w hSw; (try dsimp only at hSw); first | (go_simp; done) | (go_simp; with_reducible rfl)
        try simp only [Act.put, List.setIfInBounds_toArray, List.set_cons_zero, List.set_cons_succ, List.getElem_toArray, List.getElem_cons_zero, List.getElem_cons_succ]
        refine wpAnyH_take (i := 3) (v := ?_) rfl (by kernel_rfl) (by kernel_rfl) (by kernel_rfl) (fun _ _ _ h => h) (Or.inl ⟨by rfl, ?_⟩) hHeld ?_
        rotate_left
        · intro w hSw; (try dsimp only at hSw); first | (go_simp; done) | (go_simp; with_reducible rfl)
        try simp only [Act.put, List.setIfInBounds_toArray, List.set_cons_zero, List.set_cons_succ, List.getElem_toArray, List.getElem_cons_zero, List.getElem_cons_succ]
        refine wpAnyH_take (i := 4) (v := ?_) rfl (by kernel_rfl) (by kernel_rfl) (by kernel_rfl) (fun _ _ _ h => h) (Or.inl ⟨by rfl, ?_⟩) hHeld ?_
        rotate_left
        · intro w hSw; (try dsimp only at hSw); first | (go_simp; done) | (go_simp; with_reducible rfl)
        try simp only [Act.put, List.setIfInBounds_toArray, List.set_cons_zero, List.set_cons_succ, List.getElem_toArray, List.getElem_cons_zero, List.getElem_cons_succ]
        refine wpAnyH_take (i := 5) (v := ?_) rfl (by kernel_rfl) (by kernel_rfl) (by kernel_rfl) (fun _ _ _ h => h) (Or.inl ⟨by rfl, ?_⟩) hHeld ?_
        rotate_left
        · intro w hSw; (try dsimp only at hSw); first | (go_simp; done) | (go_simp; with_reducible rfl)
        try simp only [Act.put, List.setIfInBounds_toArray, List.set_cons_zero, List.set_cons_succ, List.getElem_toArray, List.getElem_cons_zero, List.getElem_cons_succ]
        refine wpAnyH_take (i := 6) (v := ?_) rfl (by kernel_rfl) (by kernel_rfl) (by kernel_rfl) (fun _ _ _ h => h) (Or.inl ⟨by rfl, ?_⟩) hHeld ?_
        rotate_left
        · intro w hSw; (try dsimp only at hSw); first | (go_simp; done) | (go_simp; with_reducible rfl)
        try simp only [Act.put, List.setIfInBounds_toArray, List.set_cons_zero, List.set_cons_succ, List.getElem_toArray, List.getElem_cons_zero, List.getElem_cons_succ]
        refine wpAnyH_take (i := 7) (v := ?_) rfl (by kernel_rfl) (by kernel_rfl) (by kernel_rfl) (fun _ _ _ h => h) (Or.inl ⟨by rfl, ?_⟩) hHeld ?_
        rotate_left
        · intro w hSw; (try dsimp only at hSw); first | (go_simp; done) | (go_simp; with_reducible rfl)
        try simp only [Act.put, List.setIfInBounds_toArray, List.set_cons_zero, List.set_cons_succ, List.getElem_toArray, List.getElem_cons_zero, List.getElem_cons_succ]
        refine wpAnyH_take (i := 8) (v := ?_) rfl (by kernel_rfl) (by kernel_rfl) (by kernel_rfl) (fun _ _ _ h => h) (Or.inl ⟨by rfl, ?_⟩) hHeld ?_
        rotate_left
        · intro w hSw; (try dsimp only at hSw); first | (go_simp; done) | (go_simp; with_reducible rfl)
        try simp only [Act.put, List.setIfInBounds_toArray, List.set_cons_zero, List.set_cons_succ, List.getElem_toArray, List.getElem_cons_zero, List.getElem_cons_succ]
        refine wpAnyH_take (i := 9) (v := ?_) rfl (by kernel_rfl) (by kernel_rfl) (by kernel_rfl) (fun _ _ _ h => h) (Or.inl ⟨by rfl, ?_⟩) hHeld ?_
        rotate_left
        · intro w hSw; (try dsimp only at hSw); first | (go_simp; done) | (go_simp; with_reducible rfl)
        try simp only [Act.put, List.setIfInBounds_toArray, List.set_cons_zero, List.set_cons_succ, List.getElem_toArray, List.getElem_cons_zero, List.getElem_cons_succ]
        refine wpAnyH_take (i := 10) (v := ?_) rfl (by kernel_rfl) (by kernel_rfl) (by kernel_rfl) (fun _ _ _ h => h) (Or.inl ⟨by rfl, ?_⟩) hHeld ?_
        rotate_left
        · intro w hSw; (try dsimp only at hSw); first | (go_simp; done) | (go_simp; with_reducible rfl)
        try simp only [Act.put, List.setIfInBounds_toArray, List.set_cons_zero, List.set_cons_succ, List.getElem_toArray, List.getElem_cons_zero, List.getElem_cons_succ]
        refine wpAnyH_take (i := 11) (v := ?_) rfl (by kernel_rfl) (by kernel_rfl) (by kernel_rfl) (fun _ _ _ h => h) (Or.inl ⟨by rfl, ?_⟩) hHeld ?_
        rotate_left
        · intro w hSw; (try dsimp only at hSw); first | (go_simp; done) | (go_simp; with_reducible rfl)
        try simp only [Act.put, List.setIfInBounds_toArray, List.set_cons_zero, List.set_cons_succ, List.getElem_toArray, List.getElem_cons_zero, List.getElem_cons_succ]
        refine wpAnyH_take (i := 12) (v := ?_) rfl (by kernel_rfl) (by kernel_rfl) (by kernel_rfl) (fun _ _ _ h => h) (Or.inl ⟨by rfl, ?_⟩) hHeld ?_
        rotate_left
        · intro w hSw; (try dsimp only at hSw); first | (go_simp; done) | (go_simp; with_reducible rfl)
        try simp only [Act.put, List.setIfInBounds_toArray, List.set_cons_zero, List.set_cons_succ, List.getElem_toArray, List.getElem_cons_zero, List.getElem_cons_succ]
        refine wpAnyH_take (i := 13) (v := ?_) rfl (by kernel_rfl) (by kernel_rfl) (by kernel_rfl) (fun _ _ _ h => h) (Or.inl ⟨by rfl, ?_⟩) hHeld ?_
        rotate_left
        · intro w hSw; (try dsimp only at hSw); first | (go_simp; done) | (go_simp; with_reducible rfl)
        try simp only [Act.put, List.setIfInBounds_toArray, List.set_cons_zero, List.set_cons_succ, List.getElem_toArray, List.getElem_cons_zero, List.getElem_cons_succ]
        refine wpAnyH_take (i := 14) (v := ?_) rfl (by kernel_rfl) (by kernel_rfl) (by kernel_rfl) (fun _ _ _ h => h) (Or.inl ⟨by rfl, ?_⟩) hHeld ?_
        rotate_left
        · intro w hSw; (try dsimp only at hSw); first | (go_simp; done) | (go_simp; with_reducible rfl)
        try simp only [Act.put, List.setIfInBounds_toArray, List.set_cons_zero, List.set_cons_succ, List.getElem_toArray, List.getElem_cons_zero, List.getElem_cons_succ]
        refine wpAnyH_take (i := 15) (v := ?_) rfl (by kernel_rfl) (by kernel_rfl) (by kernel_rfl) (fun _ _ _ h => h) (Or.inl ⟨by rfl, ?_⟩) hHeld ?_
        rotate_left
        · intro w hSw; (try dsimp only at hSw); first | (go_simp; done) | (go_simp; with_reducible rfl)
        try simp only [Act.put, List.setIfInBounds_toArray, List.set_cons_zero, List.set_cons_succ, List.getElem_toArray, List.getElem_cons_zero, List.getElem_cons_succ]
        refine wpAnyH_take (i := 16) (v := ?_) rfl (by kernel_rfl) (by kernel_rfl) (by kernel_rfl) (fun _ _ _ h => h) (Or.inl ⟨by rfl, ?_⟩) hHeld ?_
        rotate_left
        · intro w hSw; (try dsimp only at hSw); first | (go_simp; done) | (go_simp; with_reducible rfl)
        try simp only [Act.put, List.setIfInBounds_toArray, List.set_cons_zero, List.set_cons_succ, List.getElem_toArray, List.getElem_cons_zero, List.getElem_cons_succ]
        refine wpAnyH_take (i := 17) (v := ?_) rfl (by kernel_rfl) (by kernel_rfl) (by kernel_rfl) (fun _ _ _ h => h) (Or.inl ⟨by rfl, ?_⟩) hHeld ?_
        rotate_left
        · intro w hSw; (try dsimp only at hSw); first | (go_simp; done) | (go_simp; with_reducible rfl)
        try simp only [Act.put, List.setIfInBounds_toArray, List.set_cons_zero, List.set_cons_succ, List.getElem_toArray, List.getElem_cons_zero, List.getElem_cons_succ]
        refine wpAnyH_take (i := 18) (v := ?_) rfl (by kernel_rfl) (by kernel_rfl) (by kernel_rfl) (fun _ _ _ h => h) (Or.inl ⟨by rfl, ?_⟩) hHeld ?_
        rotate_left
        · intro w hSw; (try dsimp only at hSw); first | (go_simp; done) | (go_simp; with_reducible rfl)
        try simp only [Act.put, List.setIfInBounds_toArray, List.set_cons_zero, List.set_cons_succ, List.getElem_toArray, List.getElem_cons_zero, List.getElem_cons_succ]
        refine wpAnyH_take (i := 19) (v := ?_) rfl (by kernel_rfl) (by kernel_rfl) (by kernel_rfl) (fun _ _ _ h => h) (Or.inl ⟨by rfl, ?_⟩) hHeld ?_
        rotate_left
        · intro w hSw; (try dsimp only at hSw); first | (go_simp; done) | (go_simp; with_reducible rfl)
        try simp only [Act.put, List.setIfInBounds_toArray, List.set_cons_zero, List.set_cons_succ, List.getElem_toArray, List.getElem_cons_zero, List.getElem_cons_succ]
        refine wpAnyH_ready (rs := [20]) (by kernel_rfl) (by simp) ?_
        refine AllReadyH.cons rfl (fun K hK => ?_) AllReadyH.nil
        go_simp
        go_wp2_with (go_at_call 94; refine (blank_any _ hb0 hb1 _).mono ?_; rintro e wy ⟨rfl, rfl⟩)
        refine hK.out _ _ (hSd) (fun hHeld => ?_)
        clear hK K
        refine wpAnyH_take (i := 21) (v := ?_) rfl (by kernel_rfl) (by kernel_rfl) (by kernel_rfl) (fun _ _ _ h => h) (Or.inl ⟨by rfl, ?_⟩) hHeld ?_
        rotate_left
        · intro w hSw; (try dsimp only at hSw); first | (go_simp; done) | (go_simp; with_reducible rfl)
        try simp only [Act.put, List.setIfInBounds_toArray, List.set_cons_zero, List.set_cons_succ, List.getElem_toArray, List.getElem_cons_zero, List.getElem_cons_succ]
        refine wpAnyH_done (by kernel_rfl) ?_ _
        clear hHeld hSd hbt hbl
        generalize wr.drew = w4 at *
        go_wp2_with fail
        go_ret
        refine ⟨ret_bool ?_, by rw [HR.out]; exact HMD.out⟩
        first | (rw [HR.out]; done) | (rw [HR.out]; simp)
    · have hI : ¬ (p : Int) < s.size := by omega
      have hId : decide ((p : Int) < s.size) = false := by simpa using hI
      have hres : blk s at_ = p := by
        rw [hb, show s.size - p = 0 by omega]
        rfl
      have HR := Lib.hid hres
      have d1 := hMd.1.cell1
      have HMD := Lib.hid hMd
      clear hres hb hg hM hlt hMd
      go_upto_region 2 with fail
      refine wp_region_held_drew (S := fun w' => w'.cell? ⟨rb, 0, none⟩ = some (Value.string s) ∧ w'.cell? ⟨rb, 1, none⟩ = some (Value.int .i64 (p : Int)) ∧ Below wr.heap.size wr w') (by kernel_rfl) (hSd) (fun hHeld => ?_)
      refine wpAnyH_take (i := 0) (v := ?_) rfl (by kernel_rfl) (by kernel_rfl) (by kernel_rfl) (fun _ _ _ h => h) (Or.inl ⟨by rfl, ?_⟩) hHeld ?_
      rotate_left
      · intro w hSw; (try dsimp only at hSw); first | (go_simp; done) | (go_simp; with_reducible rfl)
      try simp only [Act.put, List.setIfInBounds_toArray, List.set_cons_zero, List.set_cons_succ, List.getElem_toArray, List.getElem_cons_zero]
      refine wpAnyH_take (i := 1) (v := ?_) rfl (by kernel_rfl) (by kernel_rfl) (by kernel_rfl) (fun _ _ _ h => h) (Or.inl ⟨by rfl, ?_⟩) hHeld ?_
      rotate_left
      · intro w hSw; (try dsimp only at hSw); first | (go_simp; done) | (go_simp; with_reducible rfl)
      try simp only [Act.put, List.setIfInBounds_toArray, List.set_cons_zero, List.set_cons_succ, List.getElem_toArray, List.getElem_cons_zero, List.getElem_cons_succ]
      refine wpAnyH_take (i := 2) (v := ?_) rfl (by kernel_rfl) (by kernel_rfl) (by kernel_rfl) (fun _ _ _ h => h) (Or.inl ⟨by rfl, ?_⟩) hHeld ?_
      rotate_left
      · intro w hSw; (try dsimp only at hSw); first | (go_simp; done) | (go_simp; with_reducible rfl)
      try simp only [Act.put, List.setIfInBounds_toArray, List.set_cons_zero, List.set_cons_succ, List.getElem_toArray, List.getElem_cons_zero, List.getElem_cons_succ]
      refine wpAnyH_take (i := 3) (v := ?_) rfl (by kernel_rfl) (by kernel_rfl) (by kernel_rfl) (fun _ _ _ h => h) (Or.inl ⟨by rfl, ?_⟩) hHeld ?_
      rotate_left
      · intro w hSw; (try dsimp only at hSw); first | (go_simp; done) | (go_simp; with_reducible rfl)
      try simp only [Act.put, List.setIfInBounds_toArray, List.set_cons_zero, List.set_cons_succ, List.getElem_toArray, List.getElem_cons_zero, List.getElem_cons_succ]
      refine wpAnyH_take (i := 4) (v := ?_) rfl (by kernel_rfl) (by kernel_rfl) (by kernel_rfl) (fun _ _ _ h => h) (Or.inl ⟨by rfl, ?_⟩) hHeld ?_
      rotate_left
      · intro w hSw; (try dsimp only at hSw); first | (go_simp; done) | (go_simp; with_reducible rfl)
      try simp only [Act.put, List.setIfInBounds_toArray, List.set_cons_zero, List.set_cons_succ, List.getElem_toArray, List.getElem_cons_zero, List.getElem_cons_succ]
      refine wpAnyH_take (i := 5) (v := ?_) rfl (by kernel_rfl) (by kernel_rfl) (by kernel_rfl) (fun _ _ _ h => h) (Or.inl ⟨by rfl, ?_⟩) hHeld ?_
      rotate_left
      · intro w hSw; (try dsimp only at hSw); first | (go_simp; done) | (go_simp; with_reducible rfl)
      try simp only [Act.put, List.setIfInBounds_toArray, List.set_cons_zero, List.set_cons_succ, List.getElem_toArray, List.getElem_cons_zero, List.getElem_cons_succ]
      refine wpAnyH_take (i := 6) (v := ?_) rfl (by kernel_rfl) (by kernel_rfl) (by kernel_rfl) (fun _ _ _ h => h) (Or.inl ⟨by rfl, ?_⟩) hHeld ?_
      rotate_left
      · intro w hSw; (try dsimp only at hSw); first | (go_simp; done) | (go_simp; with_reducible rfl)
      try simp only [Act.put, List.setIfInBounds_toArray, List.set_cons_zero, List.set_cons_succ, List.getElem_toArray, List.getElem_cons_zero, List.getElem_cons_succ]
      refine wpAnyH_take (i := 7) (v := ?_) rfl (by kernel_rfl) (by kernel_rfl) (by kernel_rfl) (fun _ _ _ h => h) (Or.inl ⟨by rfl, ?_⟩) hHeld ?_
      rotate_left
      · intro w hSw; (try dsimp only at hSw); first | (go_simp; done) | (go_simp; with_reducible rfl)
      try simp only [Act.put, List.setIfInBounds_toArray, List.set_cons_zero, List.set_cons_succ, List.getElem_toArray, List.getElem_cons_zero, List.getElem_cons_succ]
      refine wpAnyH_take (i := 8) (v := ?_) rfl (by kernel_rfl) (by kernel_rfl) (by kernel_rfl) (fun _ _ _ h => h) (Or.inl ⟨by rfl, ?_⟩) hHeld ?_
      rotate_left
      · intro w hSw; (try dsimp only at hSw); first | (go_simp; done) | (go_simp; with_reducible rfl)
      try simp only [Act.put, List.setIfInBounds_toArray, List.set_cons_zero, List.set_cons_succ, List.getElem_toArray, List.getElem_cons_zero, List.getElem_cons_succ]
      refine wpAnyH_take (i := 9) (v := ?_) rfl (by kernel_rfl) (by kernel_rfl) (by kernel_rfl) (fun _ _ _ h => h) (Or.inl ⟨by rfl, ?_⟩) hHeld ?_
      rotate_left
      · intro w hSw; (try dsimp only at hSw); first | (go_simp; done) | (go_simp; with_reducible rfl)
      try simp only [Act.put, List.setIfInBounds_toArray, List.set_cons_zero, List.set_cons_succ, List.getElem_toArray, List.getElem_cons_zero, List.getElem_cons_succ]
      refine wpAnyH_take (i := 10) (v := ?_) rfl (by kernel_rfl) (by kernel_rfl) (by kernel_rfl) (fun _ _ _ h => h) (Or.inl ⟨by rfl, ?_⟩) hHeld ?_
      rotate_left
      · intro w hSw; (try dsimp only at hSw); first | (go_simp; done) | (go_simp; with_reducible rfl)
      try simp only [Act.put, List.setIfInBounds_toArray, List.set_cons_zero, List.set_cons_succ, List.getElem_toArray, List.getElem_cons_zero, List.getElem_cons_succ]
      refine wpAnyH_take (i := 11) (v := undef) rfl (by kernel_rfl) (by kernel_rfl) (by kernel_rfl) (fun _ _ _ h => h) (Or.inr ⟨by rfl, rfl⟩) hHeld ?_
      try simp only [Act.put, List.setIfInBounds_toArray, List.set_cons_zero, List.set_cons_succ, List.getElem_toArray, List.getElem_cons_zero, List.getElem_cons_succ]
      refine wpAnyH_take (i := 12) (v := undef) rfl (by kernel_rfl) (by kernel_rfl) (by kernel_rfl) (fun _ _ _ h => h) (Or.inr ⟨by rfl, rfl⟩) hHeld ?_
      try simp only [Act.put, List.setIfInBounds_toArray, List.set_cons_zero, List.set_cons_succ, List.getElem_toArray, List.getElem_cons_zero, List.getElem_cons_succ]
      refine wpAnyH_take (i := 13) (v := undef) rfl (by kernel_rfl) (by kernel_rfl) (by kernel_rfl) (fun _ _ _ h => h) (Or.inr ⟨by rfl, rfl⟩) hHeld ?_
      try simp only [Act.put, List.setIfInBounds_toArray, List.set_cons_zero, List.set_cons_succ, List.getElem_toArray, List.getElem_cons_zero, List.getElem_cons_succ]
      refine wpAnyH_take (i := 14) (v := undef) rfl (by kernel_rfl) (by kernel_rfl) (by kernel_rfl) (fun _ _ _ h => h) (Or.inr ⟨by rfl, rfl⟩) hHeld ?_
      try simp only [Act.put, List.setIfInBounds_toArray, List.set_cons_zero, List.set_cons_succ, List.getElem_toArray, List.getElem_cons_zero, List.getElem_cons_succ]
      refine wpAnyH_take (i := 15) (v := undef) rfl (by kernel_rfl) (by kernel_rfl) (by kernel_rfl) (fun _ _ _ h => h) (Or.inr ⟨by rfl, rfl⟩) hHeld ?_
      try simp only [Act.put, List.setIfInBounds_toArray, List.set_cons_zero, List.set_cons_succ, List.getElem_toArray, List.getElem_cons_zero, List.getElem_cons_succ]
      refine wpAnyH_take (i := 16) (v := undef) rfl (by kernel_rfl) (by kernel_rfl) (by kernel_rfl) (fun _ _ _ h => h) (Or.inr ⟨by rfl, rfl⟩) hHeld ?_
      try simp only [Act.put, List.setIfInBounds_toArray, List.set_cons_zero, List.set_cons_succ, List.getElem_toArray, List.getElem_cons_zero, List.getElem_cons_succ]
      refine wpAnyH_take (i := 17) (v := undef) rfl (by kernel_rfl) (by kernel_rfl) (by kernel_rfl) (fun _ _ _ h => h) (Or.inr ⟨by rfl, rfl⟩) hHeld ?_
      try simp only [Act.put, List.setIfInBounds_toArray, List.set_cons_zero, List.set_cons_succ, List.getElem_toArray, List.getElem_cons_zero, List.getElem_cons_succ]
      refine wpAnyH_take (i := 18) (v := undef) rfl (by kernel_rfl) (by kernel_rfl) (by kernel_rfl) (fun _ _ _ h => h) (Or.inr ⟨by rfl, rfl⟩) hHeld ?_
      try simp only [Act.put, List.setIfInBounds_toArray, List.set_cons_zero, List.set_cons_succ, List.getElem_toArray, List.getElem_cons_zero, List.getElem_cons_succ]
      refine wpAnyH_take (i := 19) (v := undef) rfl (by kernel_rfl) (by kernel_rfl) (by kernel_rfl) (fun _ _ _ h => h) (Or.inr ⟨by rfl, rfl⟩) hHeld ?_
      try simp only [Act.put, List.setIfInBounds_toArray, List.set_cons_zero, List.set_cons_succ, List.getElem_toArray, List.getElem_cons_zero, List.getElem_cons_succ]
      refine wpAnyH_take (i := 20) (v := undef) rfl (by kernel_rfl) (by kernel_rfl) (by kernel_rfl) (fun _ _ _ h => h) (Or.inr ⟨by rfl, rfl⟩) hHeld ?_
      try simp only [Act.put, List.setIfInBounds_toArray, List.set_cons_zero, List.set_cons_succ, List.getElem_toArray, List.getElem_cons_zero, List.getElem_cons_succ]
      refine wpAnyH_take (i := 21) (v := ?_) rfl (by kernel_rfl) (by kernel_rfl) (by kernel_rfl) (fun _ _ _ h => h) (Or.inl ⟨by rfl, ?_⟩) hHeld ?_
      rotate_left
      · intro w hSw; (try dsimp only at hSw); first | (go_simp; done) | (go_simp; with_reducible rfl)
      try simp only [Act.put, List.setIfInBounds_toArray, List.set_cons_zero, List.set_cons_succ, List.getElem_toArray, List.getElem_cons_zero, List.getElem_cons_succ]
      refine wpAnyH_done (by kernel_rfl) ?_ _
      clear hHeld hSd
      generalize wr.drew = w4 at *
      go_wp2_with fail
      go_ret
      refine ⟨ret_bool ?_, by rw [HR.out]; exact HMD.out⟩
      first | (rw [HR.out]; done) | (rw [HR.out]; simp)
end

section
open Go.RowKit Go.PlainAid

/-- What a step of the reader comes to: the walk has ended, or it has moved and hands back a value. -/
def StepEnd {α : Type} (x : Xr α) (val : α → Value) (rb : Nat) (s : ByteArray) (cs : Array Value) (w : World) (en : Ending) (w' : World) : Prop :=
  match x with
  | .bad e a => en = Died e a ∧ KeepX w.heap.size rb w w'
  | .ok q v => en = .returned (val v) ∧ Moved rb s cs w q w'
theorem nmF_ge (s : ByteArray) : ∀ f p, p ≤ nmF s f p ∧ nmF s f p ≤ p + f
  | 0, p => ⟨Nat.le_refl _, Nat.le_refl _⟩
  | f + 1, p => by
    unfold nmF
    split
    · have := nmF_ge s f (p + 1)
      omega
    · omega
theorem nmE_ge (s : ByteArray) (p : Nat) : p ≤ nmE s p := (nmF_ge s _ p).1
theorem nmE_le (s : ByteArray) (p : Nat) (h : p ≤ s.size) : nmE s p ≤ s.size := by
  have := (nmF_ge s (s.size - p) p).2
  unfold nmE
  omega
theorem bByte_in {s : ByteArray} {p : Nat} (h : bByte (bt s p) = true) : p < s.size := by
  by_cases hp : p < s.size
  · exact hp
  · rw [bt_end s (by omega)] at h
    exact absurd h (by decide)
theorem bStart_in {s : ByteArray} {p : Nat} (h : bStart (bt s p) = true) : p < s.size := by
  by_cases hp : p < s.size
  · exact hp
  · rw [bt_end s (by omega)] at h
    exact absurd h (by decide)
theorem nmF_step {s : ByteArray} {p : Nat} (h : bByte (bt s p) = true) : nmF s (s.size - p) p = nmF s (s.size - (p + 1)) (p + 1) := by
  have := bByte_in h
  rw [show s.size - p = (s.size - (p + 1)) + 1 by omega]
  conv => lhs; unfold nmF
  rw [if_pos h]
theorem nmF_stop {s : ByteArray} {p : Nat} (h : bByte (bt s p) = false) : nmF s (s.size - p) p = p := by
  cases hf : s.size - p with
  | zero => rfl
  | succ f =>
    unfold nmF
    rw [if_neg (by rw [h]; simp)]

set_option maxRecDepth 100000 in
set_option maxHeartbeats 4000000 in
theorem rdName_any {rb : Nat} {s : ByteArray} {at_ : Nat} {cs : Array Value} {w : World} (h : Rdr rb s at_ cs w) (ha : at_ ≤ s.size) (hz : s.size ≤ 1000000000000000) :
    Calls Tryz.prog 70 #[.pointer (some ⟨rb, 0, none⟩)] w fun en w' => StepEnd (nameX s at_) (fun b => .string b) rb s cs w en w' := by
  have c1 := h.cell1
  have hn := next_any h ha
  have b0 := bt_nonneg s at_
  have b1 : bt s at_ < 256 := by have := bt_le s at_; omega
  have hns := fun W => nameStart_any (bt s at_) b0 b1 W
  cases hst : bStart (bt s at_) with
  | false =>
    rw [hst] at hns
    have hx : nameX s at_ = .bad 140 at_ := by unfold nameX; rw [if_neg (by rw [hst]; simp)]
    rw [hx]
    have HH := Lib.hid h
    clear hst hx h b0 b1
    go_enter Tryz.func70, Tryz.ntmps70
    go_wp2_with fail
    refine hn.mono ?_
    rintro e w1 ⟨rfl, hB1⟩
    have hw := want_no (HH.out.on hB1)
    go_wp2_with fail
    refine (hns w1).mono ?_
    rintro e w' ⟨rfl, rfl⟩
    go_wp2_with fail
    refine hw.mono ?_
    rintro e w' ⟨rfl, rfl⟩
    go_wp2_with fail
    exact ⟨rfl, rfl, KeepX.of hB1 (Nat.le_refl _)⟩
  | true =>
    rw [hst] at hns
    have hin := bStart_in hst
    obtain ⟨q, hq⟩ : ∃ q, nmE s at_ = q := ⟨_, rfl⟩
    have hqs : q ≤ s.size := by rw [← hq]; exact nmE_le s at_ ha
    have hqa : at_ ≤ q := by rw [← hq]; exact nmE_ge s at_
    have hxx : nameX s at_ = if 64 < q - at_ then .bad 3 at_ else .ok q (s.extract at_ q) := by
      unfold nameX
      rw [if_pos hst, hq]
    have HX := Lib.hid hxx
    have HH := Lib.hid h; have HQ := Lib.hid hq
    clear hxx hst hq h b0 b1 hin
    go_enter Tryz.func70, Tryz.ntmps70
    go_wp2_with fail
    refine hn.mono ?_
    rintro e w1 ⟨rfl, hB1⟩
    have hwy := want_yes (.pointer (some ⟨rb, 0, none⟩)) w1
    have hM1 := HH.out.moved hB1
    go_wp2_with fail
    refine (hns w1).mono ?_
    rintro e w' ⟨rfl, rfl⟩
    go_wp2_with fail
    refine hwy.mono ?_
    rintro e w' ⟨rfl, rfl⟩
    have HM1 := Lib.hid hM1
    clear hn hns hwy hM1 c1 hB1
    go_wp2_with fail
    go_loopg [] (s.size + 1 - at_) (fun f wx => ∃ p : Nat, f + p = s.size + 1 ∧ p ≤ s.size ∧ nmE s at_ = nmF s (s.size - p) p ∧ Moved rb s cs w p wx)
    case atStart => exact ⟨at_, by omega, ha, rfl, HM1.out⟩
    case round =>
      obtain ⟨p, hg, hp, hb, hM⟩ := hrel
      have HG := Lib.hid hg; have HB := Lib.hid hb
      have hp0 : (0 : Int) ≤ p := by omega
      have hnx := next_any hM.1 hp
      have b0 := bt_nonneg s p
      have b1 : bt s p < 256 := by have := bt_le s p; omega
      have hnb := fun W => nameByte_any (bt s p) b0 b1 W
      have HM := Lib.hid hM
      cases hby : bByte (bt s p) with
      | true =>
        rw [hby] at hnb
        have hin := bByte_in hby
        have hst := hb.trans (nmF_step hby)
        have HST := Lib.hid hst; have HIN := Lib.hid hin
        have f1 : IntKind.i64.wrap ((p : Int) + 1) = ((p + 1 : Nat) : Int) := by rw [IntWalk.i64_in _ (by omega)]; omega
        clear hby hst hb hM b0 b1 hg
        go_wp2_with fail
        refine hnx.mono ?_
        rintro e w2 ⟨rfl, hB2⟩
        have hM2 := HM.out.on hB2
        have d1 := hM2.1.cell1
        have d0 := hM2.1.blk.free 1
        have HM3 := Lib.hid (hM2.set (p + 1))
        clear hM2 hB2 hnx
        go_wp2_with fail
        refine (hnb w2).mono ?_
        rintro e w' ⟨rfl, rfl⟩
        go_wp2_with fail
        go_roundg (s.size - p)
        case rel => exact ⟨p + 1, by have := HG.out; have := HIN.out; omega, HIN.out, HST.out, HM3.out⟩
        case measure => have := HG.out; have := HIN.out; omega
      | false =>
        rw [hby] at hnb
        have hpq : p = q := by rw [← HQ.out, hb, nmF_stop hby]
        subst hpq
        have f1 : IntKind.i64.wrap ((p : Int) - (at_ : Int)) = (p : Int) - (at_ : Int) := IntWalk.i64_in _ (by omega)
        clear hby hb hM b0 b1 hg
        go_wp2_with fail
        refine hnx.mono ?_
        rintro e w2 ⟨rfl, hB2⟩
        have hM2 := HM.out.on hB2
        have d1 := hM2.1.cell1
        have HM2 := Lib.hid hM2
        clear hB2 hnx
        go_wp2_with fail
        refine (hnb w2).mono ?_
        rintro e w' ⟨rfl, rfl⟩
        by_cases hlong : 64 < p - at_
        · have hI : (64 : Int) < (p : Int) - (at_ : Int) := by omega
          have hx : nameX s at_ = .bad 3 at_ := by rw [HX.out, if_pos hlong]
          have hf := fail_any (.pointer (some ⟨rb, 0, none⟩)) 3 (at_ : Int) w2
          have HXX := Lib.hid hx
          clear hx hlong hM2
          go_wp2_with fail
          refine hf.mono ?_
          rintro e w' ⟨rfl, rfl⟩
          go_wp2_with fail
          refine ⟨rfl, ?_⟩
          rw [HXX.out]
          exact ⟨rfl, HM2.out.2⟩
        · have hI : ¬ (64 : Int) < (p : Int) - (at_ : Int) := by omega
          have hx : nameX s at_ = .ok p (s.extract at_ p) := by rw [HX.out, if_neg hlong]
          have HXX := Lib.hid hx
          have d0 := hM2.1.cell0
          have ha0 : (0 : Int) ≤ at_ := by omega
          have hpa : (at_ : Int) ≤ p := by omega
          have hps : (p : Int) ≤ s.size := by omega
          clear hx hlong hM2
          go_upto_region 7 with fail
          go_quiet (fail)
          go_wp2_with fail
          go_ret
          rw [HXX.out]
          exact ⟨rfl, HM2.out.on (bdN0 (Below.refl _ _) nq)⟩
end
end Go.Proofs.YtdipbfchlopeaaaGreatDoor
