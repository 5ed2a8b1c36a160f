/-
  strings.Builder wherever it lies (in a struct's field, too): copyCheck, WriteString, WriteRune, Len, String, Reset.
-/
import Derived.Test.YtnmpbphnfiiafaaGreatDoorXmP
import Derived.Test.YtnmpbphnfiiafaaGreatDoorXmV
import Derived.Lib.Builder
import Derived.Lib.AppendStr
import Derived.Lib.UnsafeStr
import Derived.Laws.Externs
import Derived.Shelf.Strings.BuilderRune
namespace Go.Proofs.YtnmpbphnfiiafaaGreatDoor
open Go.RowKit Go.PlainAid

/-- A builder at place o of block b (cells cs, type T): its buffer v holds bs. -/
structure Bld (lo b o : Nat) (T : TypeId) (cs : Array Value) (v : Value) (bs : List UInt8) (w : World) : Prop where
  blk : w.heap[b]? = some (.cells cs T (0, 0))
  p : cs[o]? = some (.pointer none) ∨ cs[o]? = some (.pointer (some ⟨b, o, none⟩))
  q : cs[o + 1]? = some v
  row : w.ownsRow lo 5 1 v bs.length (Lib.byteCells bs)
  ne : v.ownBlock ≠ some b
  lies : liesAt Tryz.prog Tryz.prog.depth T (cs.size / Tryz.prog.cellsOf T) o 70 1 = true
  lo : lo ≤ w.heap.size
/-- All but block b and the buffer's own block is as it was. -/
structure KeepB (b : Nat) (v : Value) (w w' : World) : Prop where
  os : w'.os = w.os
  tape : w'.tape = w.tape
  output : w'.output = w.output
  size : w.heap.size ≤ w'.heap.size
  block : ∀ k, k < w.heap.size → k ≠ b → v.ownBlock ≠ some k → w'.heap[k]? = w.heap[k]?
theorem KeepB.refl (b : Nat) (v : Value) (w : World) : KeepB b v w w := ⟨rfl, rfl, rfl, Nat.le_refl _, fun _ _ _ _ => rfl⟩
/-- Bytes in memory. -/
def ByE : ETy UInt8 where
  T := 5
  ST := 60
  sz := 1
  bs := 1
  z := .int .u8 0
  enc := fun c => [.int .u8 (c.toNat : Int)]
  hsz := by decide
  hbs := by decide
  hlen := fun _ => rfl
  hz := rfl
  info := by kernel_rfl
  und := Tryz.underlying60
  hone := fun _ => by simp [Value.oneCell']
theorem ownsRow_later {lo : Nat} {e : TypeId} {sz : Nat} {w w' : World} {v : Value} {n : Nat} {xs : List Value} (h : w.ownsRow lo e sz v n xs) (hb : ∀ g, v.ownBlock = some g → w'.heap[g]? = w.heap[g]?) : w'.ownsRow lo e sz v n xs := by
  obtain ⟨h1, h2⟩ := h
  refine ⟨h1, ?_⟩
  rcases h2 with h2 | ⟨g, cap, cur, hv, hg, hh, r⟩
  · exact .inl h2
  · exact .inr ⟨g, cap, cur, hv, hg, (hb g (by rw [hv]; rfl)).trans hh, r⟩
theorem bsize : (Tryz.prog.info? 70).map (·.size) = some 2 := by kernel_rfl
theorem binfo : (Tryz.prog.info? 5).map (fun i => (i.zero, i.size, i.bytes)) = some (some (.int .u8 0), 1, 1) := by kernel_rfl
theorem cellH {w : World} {b : Nat} {cs : Array Value} {T : TypeId} {fz : Nat × Nat} (h : w.heap[b]? = some (.cells cs T fz)) (i : Nat) : w.cell? ⟨b, i, none⟩ = cs[i]? := by
  simp [World.cell?, h]
theorem freeH {w : World} {b : Nat} {cs : Array Value} {T : TypeId} (h : w.heap[b]? = some (.cells cs T (0, 0))) (i : Nat) : w.frozen? ⟨b, i, none⟩ = false := by
  simp [World.frozen?, h]
theorem shapeH {w : World} {b : Nat} {cs : Array Value} {T : TypeId} (h : w.heap[b]? = some (.cells cs T (0, 0))) : w.shape? b = some (T, cs.size) := by
  simp [World.shape?, h]
theorem setH {w : World} {b : Nat} {cs : Array Value} {T : TypeId} (h : w.heap[b]? = some (.cells cs T (0, 0))) (i : Nat) (v : Value) : (w.setCell ⟨b, i, none⟩ v).heap[b]? = some (.cells (cs.setIfInBounds i v) T (0, 0)) := Go.Joins.block_setCell h v

set_option maxHeartbeats 1000000 in
set_option maxRecDepth 100000 in
theorem copyCheck_used (b o : Nat) (w : World) (h0 : w.cell? ⟨b, o, none⟩ = some (.pointer (some ⟨b, o, none⟩))) :
    Calls Tryz.prog 83 #[.pointer (some ⟨b, o, none⟩)] w fun e w' => e = .returned (.tuple #[]) ∧ w = w' := by
  obtain ⟨j, hj, _⟩ := Option.map_eq_some_iff.1 bsize
  go_enter Tryz.func83, Tryz.ntmps83
  go_wp2
  rw [Lib.run_neq_ptr_same w _ Tryz.underlying68 hj]
  go_wp2
  go_end0
  exact ⟨rfl, rfl⟩
set_option maxHeartbeats 1000000 in
set_option maxRecDepth 100000 in
theorem copyCheck_fresh (b o : Nat) (T : TypeId) (n : Nat) (w : World) (h0 : w.cell? ⟨b, o, none⟩ = some (.pointer none)) (hsh : w.shape? b = some (T, n)) (ho : o < n) (hfz : w.frozen? ⟨b, o, none⟩ = false)
    (hl : liesAt Tryz.prog Tryz.prog.depth T (n / Tryz.prog.cellsOf T) o 70 1 = true) :
    Calls Tryz.prog 83 #[.pointer (some ⟨b, o, none⟩)] w fun e w' => e = .returned (.tuple #[]) ∧ w.setCell ⟨b, o, none⟩ (.pointer (some ⟨b, o, none⟩)) = w' := by
  obtain ⟨j, hj, hjs⟩ := Option.map_eq_some_iff.1 bsize
  go_enter Tryz.func83, Tryz.ntmps83
  go_wp2
  rw [Lib.run_to_unsafe w ⟨b, o, none⟩ Tryz.underlying68 Tryz.underlying130 hj (by rw [hjs]; decide) hsh ho]
  simp only [Result.andThen]
  rw [Oper.upon_value]
  go_wp2
  rw [run_callFunc_extern Tryz.func105 (by kernel_rfl) (by kernel_rfl) (by kernel_rfl) (e := Extern.AbiNoEscape.same) (by kernel_rfl)]
  rw [Lib.run_noEscape]
  simp only [Result.andThen]
  rw [Oper.upon_value]
  go_wp2
  rw [Lib.run_from_unsafe w ⟨b, o, none⟩ Tryz.underlying130 Tryz.underlying68 hj hsh hl]
  simp only [Result.andThen]
  rw [Oper.upon_value]
  go_wp2
  go_end0
  exact ⟨rfl, rfl⟩

/-- The cells behind a write. -/
def wrC (b o : Nat) (cs : Array Value) (v : Value) : Array Value := (cs.setIfInBounds o (.pointer (some ⟨b, o, none⟩))).setIfInBounds (o + 1) v
section
variable {lo b o : Nat} {T : TypeId} {cs : Array Value} {v : Value} {bs : List UInt8} {w : World}
theorem Bld.lt (h : Bld lo b o T cs v bs w) : o + 1 < cs.size := (Array.getElem?_eq_some_iff.1 h.q).1
theorem Bld.form (h : Bld lo b o T cs v bs w) : ∃ a cap, v = .slice a bs.length cap := by
  rcases h.row.2 with ⟨hv, h0⟩ | ⟨g, cap, cur, hv, _⟩
  · exact ⟨none, 0, by rw [hv, h0]⟩
  · exact ⟨_, _, hv⟩
set_option maxHeartbeats 1000000 in
/-- Behind copyCheck. -/
theorem copyCheck_any (h : Bld lo b o T cs v bs w) :
    Calls Tryz.prog 83 #[.pointer (some ⟨b, o, none⟩)] w fun e w' => e = .returned (.tuple #[]) ∧ Bld lo b o T (cs.setIfInBounds o (.pointer (some ⟨b, o, none⟩))) v bs w' ∧ KeepB b v w w' ∧ (∀ k, k ≠ b → w'.heap[k]? = w.heap[k]?) ∧ w'.heap.size = w.heap.size := by
  have hlt := h.lt
  rcases h.p with hp | hp
  · refine (copyCheck_fresh b o T cs.size w ((cellH h.blk o).trans hp) (shapeH h.blk) (by omega) (freeH h.blk o) h.lies).mono ?_
    rintro e w' ⟨rfl, rfl⟩
    have hk : ∀ k, k ≠ b → (w.setCell ⟨b, o, none⟩ (.pointer (some ⟨b, o, none⟩))).heap[k]? = w.heap[k]? := fun k hk => Below.heap_setCell _ _ _ _ hk
    refine ⟨rfl, ⟨setH h.blk o _, .inr (Array.getElem?_setIfInBounds_self_of_lt (by omega)), ?_, ?_, h.ne, by rw [Array.size_setIfInBounds]; exact h.lies, by simpa using h.lo⟩, ⟨rfl, rfl, rfl, by simp, fun k _ hb _ => hk k hb⟩, hk, by simp⟩
    · rw [Array.getElem?_setIfInBounds_ne (by omega)]
      exact h.q
    · exact ownsRow_later h.row (fun g hg => hk g (fun e => h.ne (by rw [hg, e])))
  · refine (copyCheck_used b o w ((cellH h.blk o).trans hp)).mono ?_
    rintro e w' ⟨rfl, rfl⟩
    have hcs : cs.setIfInBounds o (.pointer (some ⟨b, o, none⟩)) = cs := by
      apply Array.ext
      · simp
      · intro i h1 h2
        rw [Array.getElem_setIfInBounds]
        split
        · rename_i e
          subst e
          rw [Array.getElem?_eq_getElem h2] at hp
          exact (Option.some.inj hp).symm
        · rfl
    rw [hcs]
    exact ⟨rfl, h, KeepB.refl _ _ _, fun _ _ => rfl, rfl⟩
theorem KeepB.trans {b : Nat} {v v' : Value} {w w1 w2 : World} (h : KeepB b v w w1) (k : KeepB b v' w1 w2) (hv : ∀ g, v'.ownBlock = some g → v.ownBlock = some g ∨ w.heap.size ≤ g) : KeepB b v w w2 :=
  ⟨k.os.trans h.os, k.tape.trans h.tape, k.output.trans h.output, Nat.le_trans h.size k.size, fun i hi hb hn => (k.block i (Nat.lt_of_lt_of_le hi h.size) hb (fun e => by
    rcases hv i e with h' | h'
    · exact hn h'
    · omega)).trans (h.block i hi hb hn)⟩
theorem KeepB.drew {b : Nat} {v : Value} {w w1 : World} (h : KeepB b v w w1) : KeepB b v w w1.drew := ⟨h.os, h.tape, h.output, h.size, h.block⟩
/-- What a write leaves. -/
def Wrote (lo b o : Nat) (T : TypeId) (cs : Array Value) (v : Value) (bs new : List UInt8) (w w' : World) : Prop :=
  ∃ v', Bld lo b o T (wrC b o cs v') v' (bs ++ new) w' ∧ KeepB b v w w' ∧ ∀ g, v'.ownBlock = some g → lo ≤ g
theorem wrote_end {w2 w1 : World} {v' : Value} {new : List UInt8} (h : Bld lo b o T cs v bs w) (h1 : Bld lo b o T (cs.setIfInBounds o (.pointer (some ⟨b, o, none⟩))) v bs w1) (hk : KeepB b v w w1) (hown : w2.ownsRow lo 5 1 v' (bs ++ new).length (Lib.byteCells (bs ++ new)))
    (hg : ∃ x, (w1.alloc x).grownBy w2 v.ownBlock ∨ w1.grownBy w2 v.ownBlock) (hT : T ≠ 5) : Wrote lo b o T cs v bs new w (w2.setCell ⟨b, o + 1, none⟩ v') := by
  have hb1 := lt_some h1.blk
  have hb2 : w2.heap[b]? = some (.cells (cs.setIfInBounds o (.pointer (some ⟨b, o, none⟩))) T (0, 0)) := by
    obtain ⟨x, hg | hg⟩ := hg
    · rw [hg.block b (by simp; omega) (fun e => h1.ne e.symm), Lib.alloc_old w1 _ b hb1]
      exact h1.blk
    · rw [hg.block b hb1 (fun e => h1.ne e.symm)]
      exact h1.blk
  have hsz : w1.heap.size ≤ w2.heap.size := by
    obtain ⟨x, hg | hg⟩ := hg
    · have := hg.size; simp at this; omega
    · exact hg.size
  have hblk : ∀ k, k < w1.heap.size → v.ownBlock ≠ some k → w2.heap[k]? = w1.heap[k]? := fun k hk' hn => by
    obtain ⟨x, hg | hg⟩ := hg
    · rw [hg.block k (by simp; omega) (fun e => hn e.symm), Lib.alloc_old w1 _ k hk']
    · exact hg.block k hk' (fun e => hn e.symm)
  have hoo : w2.os = w1.os ∧ w2.tape = w1.tape ∧ w2.output = w1.output := by
    obtain ⟨x, hg | hg⟩ := hg
    · exact ⟨hg.os, hg.tape, hg.output⟩
    · exact ⟨hg.os, hg.tape, hg.output⟩
  have hne' : v'.ownBlock ≠ some b := fun e => by
    rcases hown.2 with ⟨hv, _⟩ | ⟨g, cap, cur, hv, _, hh, _⟩
    · rw [hv] at e; simp [Value.ownBlock] at e
    · rw [hv] at e
      simp [Value.ownBlock] at e
      subst e
      rw [hb2] at hh
      injection hh with hh
      injection hh with _ hh
      exact hT hh
  have hlt := h.lt
  refine ⟨v', ⟨?_, .inr ?_, ?_, ?_, hne', ?_, ?_⟩, ⟨?_, ?_, ?_, ?_, ?_⟩, fun g hg' => (World.ownsRow.lt hown g hg').1⟩
  · exact setH hb2 (o + 1) v'
  · unfold wrC
    rw [Array.getElem?_setIfInBounds_ne (by omega), Array.getElem?_setIfInBounds_self_of_lt (by omega)]
  · unfold wrC
    rw [Array.getElem?_setIfInBounds_self_of_lt (by rw [Array.size_setIfInBounds]; omega)]
  · exact ownsRow_later hown (fun g hg' => Below.heap_setCell _ _ _ _ (fun e => hne' (by rw [hg']; exact congrArg some e)))
  · unfold wrC
    rw [Array.size_setIfInBounds, Array.size_setIfInBounds]
    exact h.lies
  · have := h1.lo; simp; omega
  · exact hoo.1.trans hk.os
  · exact hoo.2.1.trans hk.tape
  · exact hoo.2.2.trans hk.output
  · have := hk.size; simp; omega
  · intro k hk' hb hn
    have hs := hk.size
    rw [Below.heap_setCell _ _ _ _ hb, hblk k (by omega) hn]
    exact hk.block k hk' hb hn
set_option maxHeartbeats 2000000 in
set_option maxRecDepth 100000 in
theorem bWriteString (h : Bld lo b o T cs v bs w) (s : ByteArray) (hlen : bs.length + s.size ≤ 140737488355328) (hT : T ≠ 5) :
    Calls Tryz.prog 58 #[.pointer (some ⟨b, o, none⟩), .string s] w fun e w' => e = .returned (.tuple #[.int .i64 s.size, .nilIface]) ∧ Wrote lo b o T cs v bs s.data.toList w w' := by
  obtain ⟨i0, hi, hz0, hz1, hz2⟩ := info_parts binfo
  have hcc := copyCheck_any h
  go_enter Tryz.func58, Tryz.ntmps58
  go_wp2_with fail
  refine hcc.mono ?_
  rintro e w1 ⟨rfl, h1, hk, _, _⟩
  have c1 : w1.cell? ⟨b, o + 1, none⟩ = some v := (cellH h1.blk _).trans h1.q
  have hf1 := freeH h1.blk (o + 1)
  clear hcc
  go_wp2_with (at_builtin; refine Lib.wpList_append_own_string _ rfl _ _ 60 9 rfl lo 5 i0 Tryz.underlying60 Tryz.underlying9 hi hz0 hz1 hz2 _ _ _ rfl h1.row s rfl ?c3 ?c4 ?c5 ?_)
  case c3 => unfold maxLen; omega
  case c4 => omega
  case c5 => exact h1.lo
  intro v' w2 hown' hgrow _
  have hend := wrote_end (new := s.data.toList) h h1 hk (by simpa [Lib.byteCells, Lib.strCells] using hown') ⟨.cells #[] 5, .inr hgrow⟩ hT
  have hb2 : w2.heap[b]? = some (.cells (cs.setIfInBounds o (.pointer (some ⟨b, o, none⟩))) T (0, 0)) := by
    rw [hgrow.block b (lt_some h1.blk) (fun e => h1.ne e.symm)]
    exact h1.blk
  have d1 : w2.cell? ⟨b, o + 1, none⟩ = some v := (cellH hb2 _).trans h1.q
  have f1 := freeH hb2 (o + 1)
  obtain ⟨ao, n', cap, rfl⟩ : ∃ ao n' cap, v' = .slice ao n' cap := by
    rcases hown'.2 with ⟨hv, _⟩ | ⟨g, cap, cur, hv, _⟩
    · exact ⟨_, _, _, hv⟩
    · exact ⟨_, _, _, hv⟩
  have HE := Lib.hid hend
  clear hend hown' hgrow
  go_wp2_with fail
  go_ret2
  exact ⟨rfl, HE.out⟩
end
end Go.Proofs.YtnmpbphnfiiafaaGreatDoor
