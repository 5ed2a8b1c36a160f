/-
  The writer of tokens: a name, a value.
  A map of texts that were met, in memory.
  The writer's open: what holds while attributes are written.
  The writer of tokens: the begin of an element.
  The writer of tokens: a token.
  Print: tokens as a file.
-/
import Derived.Test.YtdipbfchlopeaaaGreatDoorXnG
import Derived.Test.YtdipbfchlopeaaaGreatDoorXnI
import Derived.Maps.OwnSet
import Derived.Maps.Views
import Derived.Test.YtdipbfchlopeaaaGreatDoorXnM
import Derived.Test.YtdipbfchlopeaaaGreatDoorXnK
import Derived.Test.YtdipbfchlopeaaaGreatDoorXnJ
namespace Go.Proofs.YtdipbfchlopeaaaGreatDoor
section
open Go.RowKit Go.PlainAid

/-- The writer. -/
structure Wr (lo wb : Nat) (bp tv pv : Value) (lg : Bool) (pile : List ByteArray) (text : List UInt8) (w : World) : Prop where
  bld : Bld lo wb 0 82 #[bp, tv, pv, .bool lg] tv text w
  pile : GRow StrE lo w pv pile
  wb : wb < lo
/-- No block of bytes or texts. -/
def freeO (o : Obj) : Prop := ∀ c T fz, o = .cells c T fz → T ≠ 5 ∧ T ≠ 9
/-- What the writer leaves as it was. -/
structure KeepW (lo wb : Nat) (w w' : World) : Prop where
  x : KeepX lo wb w w'
  t : ∀ k o, w.heap[k]? = some o → k ≠ wb → freeO o → w'.heap[k]? = some o
theorem KeepW.refl (lo wb : Nat) (w : World) : KeepW lo wb w w := ⟨KeepX.refl _ _ _, fun _ _ h _ _ => h⟩
theorem KeepW.trans {lo wb : Nat} {a b c : World} (h : KeepW lo wb a b) (k : KeepW lo wb b c) : KeepW lo wb a c := ⟨h.x.trans k.x, fun i o h1 h2 h3 => k.t i o (h.t i o h1 h2 h3) h2 h3⟩
theorem KeepW.of {lo wb : Nat} {a b : World} (h : Below a.heap.size a b) (hl : lo ≤ a.heap.size) : KeepW lo wb a b := ⟨KeepX.of h hl, fun k _ h1 _ _ => (h.block k (lt_some h1)).trans h1⟩
theorem KeepW.setCell {lo wb : Nat} {a w : World} (h : KeepW lo wb a w) (i : Nat) (v : Value) : KeepW lo wb a (w.setCell ⟨wb, i, none⟩ v) :=
  ⟨h.x.setCell i v, fun k o h1 h2 h3 => (Below.heap_setCell _ _ _ _ h2).trans (h.t k o h1 h2 h3)⟩
section
variable {lo wb : Nat} {bp tv pv : Value} {lg : Bool} {pile : List ByteArray} {text l : List UInt8} {w W w1 : World}
theorem Wr.later (h : Wr lo wb bp tv pv lg pile text w) {w' : World} {lg' : Bool} (hr : w'.heap[wb]? = some (.cells #[bp, tv, pv, .bool lg'] 82 (0, 0)))
    (hb : ∀ k, k < w.heap.size → k ≠ wb → w'.heap[k]? = w.heap[k]?) (hz : w.heap.size ≤ w'.heap.size) : Wr lo wb bp tv pv lg' pile text w' := by
  have hwb := h.wb
  refine ⟨⟨hr, h.bld.p, rfl, ownsRow_later h.bld.row (fun g hg => hb g (h.bld.own_lt hg).2 (fun e => by have := (h.bld.own_lt hg).1; omega)), h.bld.ne, h.bld.lies, Nat.le_trans h.bld.lo hz⟩, h.pile.later (fun g hg => hb g (h.pile.lt g hg) (by have := h.pile.own g hg; omega)), hwb⟩
theorem Wr.on (h : Wr lo wb bp tv pv lg pile text w) {w' : World} (hB : Below w.heap.size w w') : Wr lo wb bp tv pv lg pile text w' :=
  h.later ((hB.block wb (lt_some h.bld.blk)).trans h.bld.blk) (fun k hk _ => hB.block k hk) hB.size
theorem Wr.set3 (h : Wr lo wb bp tv pv lg pile text w) (q : Bool) : Wr lo wb bp tv pv q pile text (w.setCell ⟨wb, 3, none⟩ (.bool q)) :=
  h.later (setH h.bld.blk 3 _) (fun k _ hx => Below.heap_setCell _ _ _ _ hx) (by simp [World.setCell])
/-- Bytes are written. -/
theorem Wr.wrote (h : Wr lo wb bp tv pv lg pile text w) (hW : Wrote lo wb 0 82 #[bp, tv, pv, .bool lg] tv text l w w1) :
    ∃ bp' tv', Wr lo wb bp' tv' pv lg pile (text ++ l) w1 ∧ KeepW lo wb w w1 := by
  obtain ⟨v', h1, h2, h3⟩ := hW
  have hwb := h.wb
  refine ⟨.pointer (some ⟨wb, 0, none⟩), v', ⟨⟨h1.blk, .inr rfl, rfl, h1.row, h1.ne, h1.lies, h1.lo⟩, h.pile.later (fun g hg => h2.block g (h.pile.lt g hg) (by have := h.pile.own g hg; omega) (fun e => ?_)), hwb⟩,
    ⟨⟨h2.os, h2.tape, h2.output, h2.size, fun k hk hx => h2.block k (Nat.lt_of_lt_of_le hk h.bld.lo) hx (fun e => by have := (h.bld.own_lt e).1; omega)⟩, fun k o hk hx hf => (h2.block k (lt_some hk) hx (fun e => ?_)).trans hk⟩⟩
  rotate_left
  · obtain ⟨c', hc'⟩ := h.bld.kind e
    rw [hk] at hc'
    injection hc' with hc'
    exact (hf _ _ _ hc').1 rfl
  obtain ⟨c, hc⟩ := h.pile.kind g hg
  obtain ⟨c', hc'⟩ := h.bld.kind e
  exact kinds_ne hc hc' (by decide)
/-- A string into the writer's text. -/
theorem wrStr (h : Wr lo wb bp tv pv lg pile text w) (s : ByteArray) (hlen : text.length + s.size ≤ 140737488355328) :
    Calls Tryz.prog 39 #[.pointer (some ⟨wb, 0, none⟩), .string s] w fun e w' => e = .returned (.tuple #[.int .i64 s.size, .nilIface]) ∧ ∃ bp' tv', Wr lo wb bp' tv' pv lg pile (text ++ s.data.toList) w' ∧ KeepW lo wb w w' :=
  (bWriteString h.bld s hlen (by decide)).mono fun _ _ ⟨h1, h2⟩ => ⟨h1, h.wrote h2⟩
set_option maxRecDepth 100000 in
set_option maxHeartbeats 2000000 in
theorem word_any (h : Wr lo wb bp tv pv lg pile text w) (s : ByteArray) (hs : s.size ≤ 1000000000000000) :
    Calls Tryz.prog 88 #[.pointer (some ⟨wb, 0, none⟩), .string s] w fun e w' => e = .returned (.bool (nameB s)) ∧ Wr lo wb bp tv pv (lg || decide (64 < s.size)) pile text w' ∧ KeepW lo wb w w' := by
  have hn := fun W => name_any s W hs
  have c3 : w.cell? ⟨wb, 3, none⟩ = some (.bool lg) := cellH h.bld.blk 3
  have f3 := freeH h.bld.blk 3
  have hK : ∀ q, KeepW lo wb w (w.setCell ⟨wb, 3, none⟩ (.bool q)) := fun q => (KeepW.refl _ _ _).setCell 3 _
  have hS := h.set3
  have HS := Lib.hid hS; have HK := Lib.hid hK
  clear hS hK h
  by_cases h64 : 64 < s.size
  · have hI : (64 : Int) < (s.size : Int) := by omega
    have h64 := decide_eq_true h64
    cases lg <;>
    · go_enter Tryz.func88, Tryz.ntmps88
      go_wp2_with fail
      refine (hn _).mono ?_
      rintro e w' ⟨rfl, rfl⟩
      go_wp2_with fail
      go_ret
      refine ⟨rfl, ?_, HK.out _⟩
      rw [h64]
      exact HS.out _
  · have hI : ¬ (64 : Int) < (s.size : Int) := by omega
    have h64 := decide_eq_false h64
    cases lg <;>
    · go_enter Tryz.func88, Tryz.ntmps88
      go_wp2_with fail
      refine (hn _).mono ?_
      rintro e w' ⟨rfl, rfl⟩
      go_wp2_with fail
      go_ret
      refine ⟨rfl, ?_, HK.out _⟩
      rw [h64]
      exact HS.out _
set_option maxRecDepth 100000 in
set_option maxHeartbeats 2000000 in
theorem value_wr (h : Wr lo wb bp tv pv lg pile text w) (s : ByteArray) (hs : s.size ≤ 4000000000) (hlen : text.length + (escT s).size ≤ 140737488355328) :
    Calls Tryz.prog 63 #[.pointer (some ⟨wb, 0, none⟩), .string s] w fun e w' => e = .returned (.bool (decide (takenE s = 0))) ∧ KeepW lo wb w w' ∧ ∃ bp' tv', Wr lo wb bp' tv' pv (lg || decide (4096 < s.size)) pile (text ++ (escT s).data.toList) w' := by
  have he := fun W => escape_any s W hs
  have c3 : w.cell? ⟨wb, 3, none⟩ = some (.bool lg) := cellH h.bld.blk 3
  have f3 := freeH h.bld.blk 3
  have hK : ∀ q, KeepW lo wb w (w.setCell ⟨wb, 3, none⟩ (.bool q)) := fun q => (KeepW.refl _ _ _).setCell 3 _
  have hS := h.set3
  have HS := Lib.hid hS; have HK := Lib.hid hK; have HLO := Lib.hid h.bld.lo
  clear hS hK h
  by_cases h64 : 4096 < s.size
  · have hI : (4096 : Int) < (s.size : Int) := by omega
    have h64 := decide_eq_true h64
    cases lg <;>
    · go_enter Tryz.func63, Tryz.ntmps63
      go_wp2_with fail
      refine (he _).mono ?_
      rintro e w1 ⟨rfl, hB1⟩
      have hW1 := (HS.out _).on hB1
      have hwr := wrStr hW1 (escT s) hlen
      have HK1 := Lib.hid ((HK.out _).trans (KeepW.of hB1 (by simpa using HLO.out)))
      clear hW1 hB1
      go_wp2_with fail
      refine hwr.mono ?_
      rintro e w2 ⟨rfl, bp', tv', hW2, hK2⟩
      have HW2 := Lib.hid hW2; have HK2 := Lib.hid hK2
      clear hW2 hK2 hwr
      go_wp2_with fail
      go_ret
      refine ⟨ret_bool ?_, HK1.out.trans HK2.out, bp', tv', ?_⟩
      · first | rfl | (rw [HT.out]; rfl) | (by_cases h : takenE s = 0 <;> simp [h])
      · rw [h64]
        exact HW2.out
  · have hI : ¬ (4096 : Int) < (s.size : Int) := by omega
    have h64 := decide_eq_false h64
    cases lg <;>
    · go_enter Tryz.func63, Tryz.ntmps63
      go_wp2_with fail
      refine (he _).mono ?_
      rintro e w1 ⟨rfl, hB1⟩
      have hW1 := (HS.out _).on hB1
      have hwr := wrStr hW1 (escT s) hlen
      have HK1 := Lib.hid ((HK.out _).trans (KeepW.of hB1 (by simpa using HLO.out)))
      clear hW1 hB1
      go_wp2_with fail
      refine hwr.mono ?_
      rintro e w2 ⟨rfl, bp', tv', hW2, hK2⟩
      have HW2 := Lib.hid hW2; have HK2 := Lib.hid hK2
      clear hW2 hK2 hwr
      go_wp2_with fail
      go_ret
      refine ⟨ret_bool ?_, HK1.out.trans HK2.out, bp', tv', ?_⟩
      · first | rfl | (rw [HT.out]; rfl) | (by_cases h : takenE s = 0 <;> simp [h])
      · rw [h64]
        exact HW2.out
/-- An element is opened. -/
theorem Wr.pushed (h : Wr lo wb bp tv pv lg pile text w) {nm : ByteArray} {o : Obj} {v' : Value} {w6 : World} (hrow : GRow StrE lo w6 v' (pile ++ [nm])) (hg : (w.alloc o).grownBy w6 pv.ownBlock) :
    (∀ k, k < w.heap.size → pv.ownBlock ≠ some k → w6.heap[k]? = w.heap[k]?) ∧ Wr lo wb bp tv v' lg (pile ++ [nm]) text (w6.setCell ⟨wb, 2, none⟩ v') ∧ KeepW lo wb w (w6.setCell ⟨wb, 2, none⟩ v') := by
  have hwb := h.wb
  have hpo : ∀ g, pv.ownBlock = some g → lo ≤ g ∧ ∃ c, w.heap[g]? = some (.cells c 9 (0, 0)) := fun g hv => ⟨h.pile.own g hv, h.pile.kind g hv⟩
  have hz0 : w.heap.size ≤ (w.alloc o).heap.size := by simp
  have hz : w.heap.size ≤ w6.heap.size := Nat.le_trans hz0 hg.size
  have key : ∀ k, k < w.heap.size → pv.ownBlock ≠ some k → w6.heap[k]? = w.heap[k]? := fun k hk hn =>
    (hg.block k (by simp; omega) (fun e => hn e.symm)).trans (Lib.alloc_old w _ k hk)
  have hne : pv.ownBlock ≠ some wb := fun e => by have := (hpo wb e).1; omega
  have hb6 := (key wb (lt_some h.bld.blk) hne).trans h.bld.blk
  have hset : ∀ k, k ≠ wb → (w6.setCell ⟨wb, 2, none⟩ v').heap[k]? = w6.heap[k]? := fun k hk => Below.heap_setCell _ _ _ _ hk
  have hkey : ∀ k, k < w.heap.size → k ≠ wb → pv.ownBlock ≠ some k → (w6.setCell ⟨wb, 2, none⟩ v').heap[k]? = w.heap[k]? := fun k hk hx hn => (hset k hx).trans (key k hk hn)
  have hzs : (w6.setCell ⟨wb, 2, none⟩ v').heap.size = w6.heap.size := by simp [World.setCell]
  refine ⟨key, ⟨⟨setH hb6 2 v', h.bld.p, rfl, ownsRow_later h.bld.row (fun g hv => hkey g (h.bld.own_lt hv).2 (by have := (h.bld.own_lt hv).1; omega) (fun e => ?_)), h.bld.ne, h.bld.lies, ?_⟩, hrow.set wb 2 _ hwb, hwb⟩, ⟨⟨hg.os, hg.tape, hg.output, by rw [hzs]; exact hz, fun k hk hx => hkey k (Nat.lt_of_lt_of_le hk h.bld.lo) hx (fun e => by have := (hpo k e).1; omega)⟩, fun k o hk hx hf => (hkey k (lt_some hk) hx (fun e => ?_)).trans hk⟩⟩
  · obtain ⟨c, hc⟩ := h.bld.kind hv
    obtain ⟨c', hc'⟩ := (hpo g e).2
    exact kinds_ne hc hc' (by decide)
  · rw [hzs]; exact Nat.le_trans h.bld.lo hz
  · obtain ⟨c', hc'⟩ := (hpo k e).2
    rw [hk] at hc'
    injection hc' with hc'
    exact (hf _ _ _ hc').2 rfl
/-- An element is closed. -/
theorem Wr.popped {pg n pc : Nat} (h : Wr lo wb bp tv (.slice (some ⟨pg, 0, none⟩) (n + 1) pc) lg pile text w) : Wr lo wb bp tv (.slice (some ⟨pg, 0, none⟩) n pc) lg pile.dropLast text (w.setCell ⟨wb, 2, none⟩ (.slice (some ⟨pg, 0, none⟩) n pc)) := by
  have hwb := h.wb
  have hset : ∀ k, k ≠ wb → (w.setCell ⟨wb, 2, none⟩ (.slice (some ⟨pg, 0, none⟩) n pc)).heap[k]? = w.heap[k]? := fun k hk => Below.heap_setCell _ _ _ _ hk
  have hlen : pile.length = n + 1 := by
    obtain ⟨a, c, e⟩ := h.pile.form
    injection e with _ e _
    exact e.symm
  obtain ⟨p, x, rfl⟩ : ∃ p x, pile = p ++ [x] := ⟨pile.dropLast, pile.getLast (by intro e; rw [e] at hlen; simp at hlen), (List.dropLast_concat_getLast _).symm⟩
  rw [List.length_append, List.length_singleton] at hlen
  have hn : p.length = n := by omega
  subst hn
  have hrow : GRow StrE lo w (.slice (some ⟨pg, 0, none⟩) p.length pc) p := by
    have hp := h.pile
    unfold GRow at hp ⊢
    rw [List.length_append, List.length_singleton, show StrE.cs (p ++ [x]) = StrE.cs p ++ [.string x] by simp [ETy.cs, StrE]] at hp
    exact ownsRow_pop (by rw [ETy.cs_len]) hp
  rw [List.dropLast_concat]
  exact ⟨⟨setH h.bld.blk 2 _, h.bld.p, rfl, ownsRow_later h.bld.row (fun g hv => hset g (by have := (h.bld.own_lt hv).1; omega)), h.bld.ne, h.bld.lies, by simpa [World.setCell] using h.bld.lo⟩, hrow.set wb 2 _ hwb, hwb⟩
end
end

section
open Go.RowKit Go.PlainAid
open Go.Maps (Keyed string_keyed atKey_put_same atKey_put_other)

/-- How a truth value reads. -/
def RdB (v : Value) : Option (DataW Unit × List MemPlace) :=
  match v with
  | .bool b => some (.lit (.bool b), [])
  | _ => none
theorem RdB_is {v : Value} {b : Bool} {ps : List MemPlace} (h : RdB v = some (.lit (.bool b), ps)) : v = .bool b := by
  unfold RdB at h
  split at h
  · simp at h
    rw [h.1]
  · cases h
theorem map_later {H : Type} {P : Program} {k : TypeId} {R : Value → Option (DataW H × List MemPlace)} {w w' : World} {b n : Nat} {D : DataW H} (h : w.ownsMap P k R b n D) (hB : w'.heap[b]? = w.heap[b]?) : w'.ownsMap P k R b n D := by
  obtain ⟨es, clock, hb, r⟩ := h
  exact ⟨es, clock, hB.trans hb, r⟩
theorem keyStr : Keyed Tryz.prog 9 := string_keyed Tryz.underlying9
theorem zeroBool (w : World) : (zeroValue 4).run Tryz.prog w = .ok (.bool false) w := by kernel_rfl
/-- A map of texts that were met. -/
def MapB (W : World) (mb n : Nat) (g : ByteArray → Bool) : Prop :=
  ∃ D : DataW Unit, W.ownsMap Tryz.prog 9 RdB mb n D ∧ ∀ s : ByteArray, D.atKey (.string s.data.toList) (.lit (.bool false)) = .lit (.bool (g s))
theorem MapB.made (w : World) : MapB (w.alloc (.map #[] 0)) w.heap.size 0 (fun _ => false) := ⟨.map [], World.ownsMap_made _ _ _ _, fun _ => rfl⟩
theorem MapB.later {W W' : World} {mb n : Nat} {g : ByteArray → Bool} (h : MapB W mb n g) (hB : W'.heap[mb]? = W.heap[mb]?) : MapB W' mb n g := by
  obtain ⟨D, h1, h2⟩ := h
  exact ⟨D, map_later h1 hB, h2⟩
theorem MapB.lt {W : World} {mb n : Nat} {g : ByteArray → Bool} (h : MapB W mb n g) : mb < W.heap.size := by
  obtain ⟨D, h1, _⟩ := h
  exact h1.lt
theorem MapB.on {W W' : World} {mb n : Nat} {g : ByteArray → Bool} (h : MapB W mb n g) (hB : Below W.heap.size W W') : MapB W' mb n g := h.later (hB.block mb h.lt)
theorem MapB.look {W : World} {mb n : Nat} {g : ByteArray → Bool} (h : MapB W mb n g) (s : ByteArray) (hs : s.size ≤ maxLen) :
    (Instr.lookup 59 (.map (some mb)) (.string s) false).run Tryz.prog W = .ok (.bool (g s)) W := by
  obtain ⟨D, h1, h2⟩ := h
  have hk := WideMaps.keyOf_string_mk (P := Tryz.prog) Tryz.underlying9 hs
  obtain ⟨v, ps, hrun, hv⟩ := h1.lookup keyStr Tryz.underlying59 (zeroBool W) (show RdB (.bool false) = some (.lit (.bool false), []) from rfl) hk
  rw [h2] at hv
  rw [RdB_is hv] at hrun
  exact hrun
theorem bytes_list {a b : ByteArray} (h : a.data.toList = b.data.toList) : a = b := by
  cases a; cases b
  simp at h
  exact congrArg _ h
theorem MapB.put {W : World} {mb n : Nat} {g : ByteArray → Bool} (h : MapB W mb n g) (s : ByteArray) (hs : s.size ≤ maxLen) (hn : n ≤ 1000000000) :
    ∃ w', (Instr.mapUpdate 59 (.map (some mb)) (.string s) (.bool true)).run Tryz.prog W = .ok () w' ∧ MapB w' mb (n + 1) (fun q => decide (q = s) || g q) ∧ W.grownBy w' (some mb) := by
  obtain ⟨D, h1, h2⟩ := h
  have hk := WideMaps.keyOf_string_mk (P := Tryz.prog) Tryz.underlying9 hs
  obtain ⟨w', hrun, r1, r2⟩ := h1.update keyStr Tryz.underlying59 (by unfold maxLen; omega) hk (show RdB (.bool true) = some (.lit (.bool true), []) from rfl)
  refine ⟨w', hrun, ⟨_, r1, fun q => ?_⟩, r2⟩
  by_cases hq : q = s
  · subst hq
    obtain ⟨es, _, _, _, _, rfl⟩ := h1
    rw [atKey_put_same ⟨_, rfl⟩ (show WideAt.IsKeyLit (.string q.data.toList) from trivial)]
    simp
  · rw [atKey_put_other (by intro e; injection e with e; exact hq (bytes_list e)), h2]
    simp [hq]
end

section
open Go.RowKit Go.PlainAid

theorem new_at (w : World) (o : Obj) : (w.alloc o).heap[w.heap.size]? = some o := by
  show (w.heap.push _)[w.heap.size]? = _
  simp
theorem tok_free {cs : Array Value} : freeO (Obj.cells cs 27 (0, 0)) := fun c T fz e => by
  injection e with _ e _
  subst e
  decide
theorem at_free {cs : Array Value} : freeO (Obj.cells cs 40 (0, 0)) := fun c T fz e => by
  injection e with _ e _
  subst e
  decide
theorem MapB.obj {W : World} {mb n : Nat} {g : ByteArray → Bool} (h : MapB W mb n g) : ∃ es c, W.heap[mb]? = some (.map es c) := by
  obtain ⟨D, ⟨es, clock, hb, _⟩, _⟩ := h
  exact ⟨es, clock, hb⟩
theorem MapB.keepW {lo wb : Nat} {W W' : World} {mb n : Nat} {g : ByteArray → Bool} (h : MapB W mb n g) (hn : mb ≠ wb) (hk : KeepW lo wb W W') : MapB W' mb n g := by
  obtain ⟨es, c, hm⟩ := h.obj
  exact h.later ((hk.t _ _ hm hn (fun _ _ _ e => by cases e)).trans hm.symm)
/-- What holds while attributes are written: the writer, blocks that are kept, the names that were met. -/
structure Fr (lo wb : Nat) (w : World) (bs : List (Nat × Obj)) (mb n : Nat) (g : ByteArray → Bool) (pv : Value) (pile : List ByteArray) (lg : Bool) (text : List UInt8) (wx : World) : Prop where
  wr : ∃ bp tv, Wr lo wb bp tv pv lg pile text wx
  k : KeepW lo wb w wx
  b : ∀ p ∈ bs, wx.heap[p.1]? = some p.2 ∧ p.1 ≠ wb ∧ p.1 ≠ mb ∧ freeO p.2
  m : MapB wx mb n g
  mw : mb ≠ wb ∧ w.heap.size ≤ mb ∧ lo ≤ mb
section
variable {lo wb mb n : Nat} {w wx wy : World} {bs : List (Nat × Obj)} {g : ByteArray → Bool} {pv : Value} {pile : List ByteArray} {lg lg' : Bool} {text text' : List UInt8}
theorem Fr.keep (h : Fr lo wb w bs mb n g pv pile lg text wx) (hk : KeepW lo wb wx wy) (hw : ∃ bp tv, Wr lo wb bp tv pv lg' pile text' wy) : Fr lo wb w bs mb n g pv pile lg' text' wy :=
  ⟨hw, h.k.trans hk, fun p hp => by obtain ⟨h1, h2, h3, h4⟩ := h.b p hp; exact ⟨hk.t _ _ h1 h2 h4, h2, h3, h4⟩, h.m.keepW h.mw.1 hk, h.mw⟩
theorem Fr.zl (h : Fr lo wb w bs mb n g pv pile lg text wx) : lo ≤ wx.heap.size ∧ wb < wx.heap.size := by
  obtain ⟨bp, tv, hw⟩ := h.wr
  exact ⟨hw.bld.lo, lt_some hw.bld.blk⟩
theorem Fr.wlt (h : Fr lo wb w bs mb n g pv pile lg text wx) : wb < lo := by
  obtain ⟨bp, tv, hw⟩ := h.wr
  exact hw.wb
theorem Fr.on (h : Fr lo wb w bs mb n g pv pile lg text wx) (hB : Below wx.heap.size wx wy) : Fr lo wb w bs mb n g pv pile lg text wy := by
  refine h.keep (KeepW.of hB h.zl.1) ?_
  obtain ⟨bp, tv, hw⟩ := h.wr
  exact ⟨bp, tv, hw.on hB⟩
theorem Fr.alloc (h : Fr lo wb w bs mb n g pv pile lg text wx) {o : Obj} (ho : freeO o) : Fr lo wb w ((wx.heap.size, o) :: bs) mb n g pv pile lg text (wx.alloc o) := by
  have h2 := h.on ((Below.refl _ _).alloc (Nat.le_refl _) o)
  refine ⟨h2.wr, h2.k, fun p hp => ?_, h2.m, h2.mw⟩
  rcases List.mem_cons.1 hp with rfl | hp
  · have := h.m.lt
    have := h.zl.2
    exact ⟨new_at _ _, by simp only; omega, by simp only; omega, ho⟩
  · exact h2.b p hp
theorem Fr.less {q : Nat × Obj} (h : Fr lo wb w (q :: bs) mb n g pv pile lg text wx) : Fr lo wb w bs mb n g pv pile lg text wx :=
  ⟨h.wr, h.k, fun p hp => h.b p (by simp [hp]), h.m, h.mw⟩
theorem Fr.blk {q : Nat × Obj} (h : Fr lo wb w bs mb n g pv pile lg text wx) (hq : q ∈ bs) : wx.heap[q.1]? = some q.2 := (h.b q hq).1
/-- A string into the text. -/
theorem Fr.str (h : Fr lo wb w bs mb n g pv pile lg text wx) (s : ByteArray) {l : List UInt8} (hl : s.data.toList = l) (hlen : text.length + s.size ≤ 140737488355328) :
    Calls Tryz.prog 39 #[.pointer (some ⟨wb, 0, none⟩), .string s] wx fun e w' => e = .returned (.tuple #[.int .i64 s.size, .nilIface]) ∧ Fr lo wb w bs mb n g pv pile lg (text ++ l) w' := by
  obtain ⟨bp, tv, hw⟩ := h.wr
  refine (wrStr hw s hlen).mono ?_
  rintro e w' ⟨rfl, bp', tv', h1, h2⟩
  rw [hl] at h1
  exact ⟨rfl, h.keep h2 ⟨bp', tv', h1⟩⟩
theorem Fr.word (h : Fr lo wb w bs mb n g pv pile lg text wx) (s : ByteArray) (hs : s.size ≤ 1000000000000000) :
    Calls Tryz.prog 88 #[.pointer (some ⟨wb, 0, none⟩), .string s] wx fun e w' => e = .returned (.bool (nameB s)) ∧ Fr lo wb w bs mb n g pv pile (lg || decide (64 < s.size)) text w' := by
  obtain ⟨bp, tv, hw⟩ := h.wr
  refine (word_any hw s hs).mono ?_
  rintro e w' ⟨rfl, h1, h2⟩
  exact ⟨rfl, h.keep h2 ⟨_, _, h1⟩⟩
theorem Fr.value (h : Fr lo wb w bs mb n g pv pile lg text wx) (s : ByteArray) (hs : s.size ≤ 4000000000) (hlen : text.length + (escT s).size ≤ 140737488355328) :
    Calls Tryz.prog 63 #[.pointer (some ⟨wb, 0, none⟩), .string s] wx fun e w' => e = .returned (.bool (decide (takenE s = 0))) ∧ Fr lo wb w bs mb n g pv pile (lg || decide (4096 < s.size)) (text ++ (escT s).data.toList) w' := by
  obtain ⟨bp, tv, hw⟩ := h.wr
  refine (value_wr hw s hs hlen).mono ?_
  rintro e w' ⟨rfl, h2, bp', tv', h1⟩
  exact ⟨rfl, h.keep h2 ⟨_, _, h1⟩⟩
/-- One name more is met. -/
theorem Fr.put (h : Fr lo wb w bs mb n g pv pile lg text wx) (s : ByteArray) (hs : s.size ≤ maxLen) (hn : n ≤ 1000000000) :
    ∃ w', (Instr.mapUpdate 59 (.map (some mb)) (.string s) (.bool true)).run Tryz.prog wx = .ok () w' ∧ Fr lo wb w bs mb (n + 1) (fun q => decide (q = s) || g q) pv pile lg text w' := by
  obtain ⟨w', h1, h2, h3⟩ := h.m.put s hs hn
  obtain ⟨es, c, hm⟩ := h.m.obj
  have hno : ∀ k cs T fz, wx.heap[k]? = some (Obj.cells cs T fz) → w'.heap[k]? = wx.heap[k]? := fun k cs T fz hk =>
    h3.block k (lt_some hk) (fun e => by injection e with e; subst e; rw [hm] at hk; cases hk)
  refine ⟨w', h1, ?_, ?_, fun p hp => ?_, h2, h.mw⟩
  · obtain ⟨bp, tv, hw⟩ := h.wr
    refine ⟨bp, tv, ⟨(hno _ _ _ _ hw.bld.blk).trans hw.bld.blk, hw.bld.p, hw.bld.q, ownsRow_later hw.bld.row (fun k hk => ?_), hw.bld.ne, hw.bld.lies, Nat.le_trans hw.bld.lo h3.size⟩, hw.pile.later (fun k hk => ?_), hw.wb⟩
    · obtain ⟨c', hc'⟩ := hw.bld.kind hk
      exact hno _ _ _ _ hc'
    · obtain ⟨c', hc'⟩ := hw.pile.kind k hk
      exact hno _ _ _ _ hc'
  · have hk := h.k
    have hz := hk.x.size
    refine ⟨⟨h3.os.trans hk.x.os, h3.tape.trans hk.x.tape, h3.output.trans hk.x.output, Nat.le_trans hz h3.size, fun k hk1 hk2 => (h3.block k ?_ ?_).trans (hk.x.block k hk1 hk2)⟩, fun k o hk1 hk2 hk3 => (h3.block k ?_ ?_).trans (hk.t k o hk1 hk2 hk3)⟩
    · have := h.zl.1; omega
    · intro e; injection e with e; have := h.mw.2.2; omega
    · have := lt_some hk1; omega
    · intro e; injection e with e; have := lt_some hk1; have := h.mw.2.1; omega
  · obtain ⟨p1, p2, p3, p4⟩ := h.b p hp
    exact ⟨(h3.block _ (lt_some p1) (fun e => by injection e with e; exact p3 e)).trans p1, p2, p3, p4⟩
theorem any_take {A : List At2} {i : Nat} (h : i < A.length) : (fun q => decide (q = A[i].1) || ((A.take i).any fun a => decide (a.1 = q))) = fun q => (A.take (i + 1)).any fun a => decide (a.1 = q) := by
  funext q
  rw [take_snoc h, List.any_append, List.any_cons, List.any_nil, Bool.or_false, Bool.or_comm]
  congr 1
  by_cases e : q = A[i].1
  · rw [decide_eq_true e, decide_eq_true e.symm]
  · rw [decide_eq_false e, decide_eq_false (fun h => e h.symm)]
end
end

section
open Go.RowKit Go.PlainAid

section
variable {lo wb : Nat} {bp tv pv : Value} {lg : Bool} {pile : List ByteArray} {text : List UInt8} {w W0 : World}
set_option maxRecDepth 100000
set_option maxHeartbeats 8000000
structure OpR (lo wb : Nat) (w : World) (bs : List (Nat × Obj)) (mb : Nat) (pv : Value) (pile : List ByteArray) (lg : Bool) (text : List UInt8) (A : List At2) (i : Nat) (wx : World) : Prop where
  fr : Fr lo wb w bs mb i (fun q => (A.take i).any fun a => decide (a.1 = q)) pv pile (lg || attrsLong (A.take i)) (text ++ attrsD D0 (A.take i)) wx
  ok : attrsOk [] (A.take i) = true
theorem open_wr (h : Wr lo wb bp tv pv lg pile text w) (hB0 : Below W0.heap.size W0 w) (hw0 : W0.heap.size ≤ wb) (kd at_ : Int) (nm tx : ByteArray) (aa : Option Addr) (an ac : Nat) (A : List At2) (hA : GAt AtE W0 (.slice aa an ac) A) (hnm : nm.size ≤ 1048576) (hal : wtL wtAt A ≤ 1048576) (hpl : pile.length ≤ 10000000) (htx : text.length ≤ 10000000000000) :
    Calls Tryz.prog 62 #[.pointer (some ⟨wb, 0, none⟩), .agg #[.int .i64 kd, .string nm, .slice aa an ac, .string tx, .int .i64 at_]] w fun e w' => e = .returned (.bool (nameB nm && attrsOk [] A)) ∧ KeepW lo wb w w' ∧
      ((nameB nm && attrsOk [] A) = true → ∃ bp' tv' pv', Wr lo wb bp' tv' pv' (lg || (decide (64 < nm.size) || decide (16 < A.length) || decide (pile.length = 64) || attrsLong A)) (pile ++ [nm]) (text ++ (60 :: (nm.data.toList ++ (attrsD D0 A ++ [62])))) w') := by
  obtain ⟨pa, pn, pc, hpv⟩ := h.pile.form'
  subst hpv
  have hpn : pn = pile.length := by
    obtain ⟨a, c, e⟩ := h.pile.form
    injection e with _ e _
  obtain ⟨a0, c0, e, hAc⟩ := id hA
  injection e with e1 hlen e2
  subst e1 e2
  obtain ⟨tb, htb⟩ : ∃ tb, w.heap.size = tb := ⟨_, rfl⟩
  have hwbt : wb < tb := by rw [← htb]; exact lt_some h.bld.blk
  have hlo := h.bld.lo
  have hpt : ∀ g, (Value.slice pa pn pc).ownBlock = some g → g ≠ tb := fun g hg e => by have := h.pile.lt g hg; omega
  have HPT := Lib.hid hpt
  obtain ⟨w1, hw1⟩ : ∃ w1, w.alloc (.cells #[Value.int .i64 kd, Value.string nm, Value.slice aa an ac, Value.string tx, Value.int .i64 at_] 27) = w1 := ⟨_, rfl⟩
  have hT1 : Blk w1 tb #[Value.int .i64 kd, Value.string nm, Value.slice aa an ac, Value.string tx, Value.int .i64 at_] := by rw [← hw1, ← htb]; exact Blk.new _ _ _
  have hT1r : w1.heap[tb]? = some (.cells #[Value.int .i64 kd, Value.string nm, Value.slice aa an ac, Value.string tx, Value.int .i64 at_] 27 (0, 0)) := by rw [← hw1, ← htb]; exact new_at _ _
  have HT1R := Lib.hid hT1r
  have hBA : Below w.heap.size w w1 := by rw [← hw1]; exact (Below.refl _ _).alloc (Nat.le_refl _) _
  have h1 := h.on hBA
  have c2 : w1.cell? ⟨wb, 2, none⟩ = some (.slice pa pn pc) := cellH h1.bld.blk 2
  have c3 : w1.cell? ⟨wb, 3, none⟩ = some (.bool lg) := cellH h1.bld.blk 3
  have f3 := freeH h1.bld.blk 3
  have t2 : w1.cell? ⟨tb, 2, none⟩ = some (.slice aa an ac) := hT1.cell 2
  obtain ⟨lg', hlg'⟩ : ∃ b, (lg || (decide (16 < A.length) || decide (pile.length = 64))) = b := ⟨_, rfl⟩
  have HLG := Lib.hid hlg'
  have HT1 := Lib.hid hT1; have HH1 := Lib.hid h1; have HBA := Lib.hid hBA; have HW1 := Lib.hid hw1; have HLO := Lib.hid hlo; have HTB := Lib.hid htb; have HAC := Lib.hid hAc; have HA := Lib.hid hA; have HB0 := Lib.hid hB0
  have HPN := Lib.hid hpn; have HLEN := Lib.hid hlen
  clear hT1r hpt hT1 hBA h1 h hlo hAc hA hB0 hpn hlen hlg'
  go_enter Tryz.func62, Tryz.ntmps62
  go_upto_region 0 with fail
  go_cut [3] (fun s3 wx => s3 = .pointer (some ⟨tb, 0, none⟩) ∧ wx = w1)
  case first =>
    go_wp2_with fail
    go_meet
    case rel => exact ⟨rfl, rfl⟩
  case rest =>
  obtain ⟨rfl, rfl⟩ := hcut
  go_upto_region 1 with fail
  go_cut [] (fun wx => wx = wc.setCell ⟨wb, 3, none⟩ (.bool lg'))
  case first =>
    clear HW1
    have hlgx := HLG.out
    rw [← HPN.out, ← HLEN.out] at hlgx
    subst hlgx
    clear HLG
    by_cases h16 : 16 < an
    · have i16 : (16 : Int) < (an : Int) := by omega
      by_cases h64 : pn = 64
      · have i64 : (pn : Int) = 64 := by omega
        cases lg <;>
        · go_wp2_with fail
          go_meet
          case rel => simp [h16, h64]
      · have i64 : ¬ (pn : Int) = 64 := by omega
        have ib : ((pn : Int) == 64) = false := by simpa using i64
        cases lg <;>
        · go_wp2_with fail
          go_meet
          case rel => simp [h16, h64]
    · have i16 : ¬ (16 : Int) < (an : Int) := by omega
      by_cases h64 : pn = 64
      · have i64 : (pn : Int) = 64 := by omega
        cases lg <;>
        · go_wp2_with fail
          go_meet
          case rel => simp [h16, h64]
      · have i64 : ¬ (pn : Int) = 64 := by omega
        have ib : ((pn : Int) == 64) = false := by simpa using i64
        cases lg <;>
        · go_wp2_with fail
          go_meet
          case rel => simp [h16, h64]
  case rest =>
  obtain rfl := hcut
  have hne : tb ≠ wb := by omega
  have hNE := Lib.hid hne
  have hW2 := HH1.out.set3 lg'
  have hK2 : KeepW lo wb w (wc.setCell ⟨wb, 3, none⟩ (.bool lg')) := (KeepW.of HBA.out HLO.out).setCell 3 _
  have hT2 : Blk (wc.setCell ⟨wb, 3, none⟩ (.bool lg')) tb #[Value.int .i64 kd, Value.string nm, Value.slice aa an ac, Value.string tx, Value.int .i64 at_] := HT1.out.other wb 3 _ hne
  have hT2r : (wc.setCell ⟨wb, 3, none⟩ (.bool lg')).heap[tb]? = some (.cells #[Value.int .i64 kd, Value.string nm, Value.slice aa an ac, Value.string tx, Value.int .i64 at_] 27 (0, 0)) := (Below.heap_setCell _ _ _ _ hne).trans HT1R.out
  have hK2d : KeepW lo wb w (wc.setCell ⟨wb, 3, none⟩ (.bool lg')).drew := hK2.trans (KeepW.of (Below.refl _ _).drew hW2.bld.lo)
  generalize wc.setCell ⟨wb, 3, none⟩ (.bool lg') = W2 at *
  have hW2d := hW2.on (Below.refl _ _).drew
  have hlt2 : wb < W2.heap.size := lt_some hW2.bld.blk
  have cp : W2.cell? ⟨wb, 2, none⟩ = some (.slice pa pn pc) := cellH hW2.bld.blk 2
  have hSB : ∀ o, W2.drew.cell? ⟨tb, o, none⟩ = #[Value.int .i64 kd, Value.string nm, Value.slice aa an ac, Value.string tx, Value.int .i64 at_][o]? := (hT2.on (Below.refl _ _).drew).cell
  have hSC : ∀ o, (W2.drew.alloc (.cells #[.string nm] 9)).cell? ⟨tb, o, none⟩ = #[Value.int .i64 kd, Value.string nm, Value.slice aa an ac, Value.string tx, Value.int .i64 at_][o]? := ((hT2.on (Below.refl _ _).drew).alloc _).cell
  have hrowB : GRow StrE lo (W2.drew.alloc (.cells #[.string nm] 9)) (.slice pa pn pc) pile := hW2d.pile.on ((Below.refl _ _).alloc (Nat.le_refl _) _)
  have hbase2 : lo ≤ (W2.drew.alloc (.cells #[.string nm] 9)).heap.size := Nat.le_trans hW2d.bld.lo (by simp)
  have hlen2 : pile.length ≤ 100000000 := by omega
  have hpk2 : ∀ v' w6, GRow StrE lo w6 v' (pile ++ [nm]) → (W2.drew.alloc (.cells #[.string nm] 9)).grownBy w6 (Value.slice pa pn pc).ownBlock → w6.frozen? ⟨wb, 2, none⟩ = false ∧ w6.cell? ⟨wb, 2, none⟩ = some (.slice pa pn pc) ∧ (∀ o, w6.cell? ⟨tb, o, none⟩ = #[Value.int .i64 kd, Value.string nm, Value.slice aa an ac, Value.string tx, Value.int .i64 at_][o]?) ∧ (∀ o, (w6.setCell ⟨wb, 2, none⟩ v').cell? ⟨tb, o, none⟩ = #[Value.int .i64 kd, Value.string nm, Value.slice aa an ac, Value.string tx, Value.int .i64 at_][o]?) := fun v' w6 hr hg => by
    have hk := (hW2d.pushed hr hg).1
    have hb6 := (hk wb (lt_some hW2d.bld.blk) (fun e => by have := hW2d.pile.own wb e; have := hW2d.wb; omega)).trans hW2d.bld.blk
    have ht6 : Blk w6 tb #[Value.int .i64 kd, Value.string nm, Value.slice aa an ac, Value.string tx, Value.int .i64 at_] := by
      obtain ⟨t, ht⟩ := hT2.on (Below.refl _ _).drew
      exact ⟨t, (hk _ (lt_some ht) (fun e => HPT.out _ e rfl)).trans ht⟩
    exact ⟨freeH hb6 2, cellH hb6 2, ht6.cell, (ht6.other wb 2 v' hNE.out).cell⟩
  have hr2 : ∀ v' w6, GRow StrE lo w6 v' (pile ++ [nm]) → (W2.drew.alloc (.cells #[.string nm] 9)).grownBy w6 (Value.slice pa pn pc).ownBlock → Wr lo wb bp tv v' lg' (pile ++ [nm]) text (w6.setCell ⟨wb, 2, none⟩ v') ∧ KeepW lo wb w (w6.setCell ⟨wb, 2, none⟩ v') ∧ (w6.setCell ⟨wb, 2, none⟩ v').heap[tb]? = some (.cells #[Value.int .i64 kd, Value.string nm, Value.slice aa an ac, Value.string tx, Value.int .i64 at_] 27 (0, 0)) := fun v' w6 hr hg =>
    ⟨(hW2d.pushed hr hg).2.1, hK2d.trans (hW2d.pushed hr hg).2.2, (hW2d.pushed hr hg).2.2.t tb _ hT2r hNE.out tok_free⟩
  have HROWB := Lib.hid hrowB; have HPK2 := Lib.hid hpk2; have HR2 := Lib.hid hr2; have HSB := Lib.hid hSB; have HSC := Lib.hid hSC
  clear hW2 hW2d hT2 hT2r hK2 hK2d hrowB hpk2 hr2 hSB hSC hne
  go_upto_region 2 with fail
  go_cut [] (fun wx => ∃ v', Wr lo wb bp tv v' lg' (pile ++ [nm]) text wx ∧ KeepW lo wb w wx ∧ wx.heap[tb]? = some (.cells #[Value.int .i64 kd, Value.string nm, Value.slice aa an ac, Value.string tx, Value.int .i64 at_] 27 (0, 0)))
  case first =>
    refine wp_region_held_drew (S := fun w' => ∀ o, w'.cell? ⟨tb, o, none⟩ = #[Value.int .i64 kd, Value.string nm, Value.slice aa an ac, Value.string tx, Value.int .i64 at_][o]?) (by kernel_rfl) (HSB.out) (fun hHeld => ?_)
    refine tkH 0 hHeld ?_
    refine tkH 1 hHeld ?_
    refine tkH 2 hHeld ?_
    refine tkH 3 hHeld ?_
    refine tkH 5 hHeld ?_
    refine tkH 6 hHeld ?_
    refine wpAnyH_ready (rs := [4, 7]) (by kernel_rfl) (by simp) ?_
    refine AllReadyH.cons rfl (fun K hK => ?_) ?_
    go_simp
    refine hK.out _ _ (HSB.out) (fun hHeld => ?_)
    clear hK K
    refine wpAnyH_ready (rs := [7]) (by kernel_rfl) (by simp) ?_
    refine AllReadyH.cons rfl (fun K hK => ?_) AllReadyH.nil
    go_simp
    refine hK.out _ _ (HSC.out) (fun hHeld => ?_)
    clear hK K
    refine wpAnyH_ready (rs := [8]) (by kernel_rfl) (by simp) ?_
    refine AllReadyH.cons rfl (fun K hK => ?_) AllReadyH.nil
    (refine step_snoc_g StrE (x := nm) rfl _ _ rfl lo (.slice pa pn pc) pile rfl HROWB.out 1 _ rfl (Blk.new _ _ _) hlen2 hbase2 ?_; intro v' w8 hrow8 hg8; obtain ⟨a', n', c', rfl⟩ := hrow8.form'; obtain ⟨f8, c8, hS8, hS8'⟩ := HPK2.out _ _ hrow8 hg8)
    refine hK.out _ _ (hS8) (fun hHeld => ?_)
    clear hK K
    refine tkH 9 hHeld ?_
    refine tkH 10 hHeld ?_
    refine wpAnyH_ready (rs := [11]) (by kernel_rfl) (by simp) ?_
    refine AllReadyH.cons rfl (fun K hK => ?_) AllReadyH.nil
    go_simp
    refine hK.out _ _ (hS8') (fun hHeld => ?_)
    clear hK K
    refine wpAnyH_done (by kernel_rfl) ?_ _
    have hE := HR2.out _ _ hrow8 hg8
    go_wp2_with fail
    go_meet
    case rel => exact ⟨_, hE⟩
    refine AllReadyH.cons rfl (fun K hK => ?_) ?_
    go_simp
    refine hK.out _ _ (HSC.out) (fun hHeld => ?_)
    clear hK K
    refine wpAnyH_ready (rs := [4]) (by kernel_rfl) (by simp) ?_
    refine AllReadyH.cons rfl (fun K hK => ?_) AllReadyH.nil
    go_simp
    refine hK.out _ _ (HSC.out) (fun hHeld => ?_)
    clear hK K
    refine wpAnyH_ready (rs := [8]) (by kernel_rfl) (by simp) ?_
    refine AllReadyH.cons rfl (fun K hK => ?_) AllReadyH.nil
    (refine step_snoc_g StrE (x := nm) rfl _ _ rfl lo (.slice pa pn pc) pile rfl HROWB.out 1 _ rfl (Blk.new _ _ _) hlen2 hbase2 ?_; intro v' w8 hrow8 hg8; obtain ⟨a', n', c', rfl⟩ := hrow8.form'; obtain ⟨f8, c8, hS8, hS8'⟩ := HPK2.out _ _ hrow8 hg8)
    refine hK.out _ _ (hS8) (fun hHeld => ?_)
    clear hK K
    refine tkH 9 hHeld ?_
    refine tkH 10 hHeld ?_
    refine wpAnyH_ready (rs := [11]) (by kernel_rfl) (by simp) ?_
    refine AllReadyH.cons rfl (fun K hK => ?_) AllReadyH.nil
    go_simp
    refine hK.out _ _ (hS8') (fun hHeld => ?_)
    clear hK K
    refine wpAnyH_done (by kernel_rfl) ?_ _
    have hE := HR2.out _ _ hrow8 hg8
    go_wp2_with fail
    go_meet
    case rel => exact ⟨_, hE⟩
    exact AllReadyH.nil
  case rest =>
  clear HROWB HPK2 HR2 HSB HSC cp hlt2
  obtain ⟨pv3, hW3, hK3, hT3⟩ := hcut
  have t1 : wc.cell? ⟨tb, 1, none⟩ = some (.string nm) := cellH hT3 1
  have hnz := size_list nm
  have hstr : ∀ s : ByteArray, s.data.toList = 60 :: nm.data.toList → Calls Tryz.prog 39 #[.pointer (some ⟨wb, 0, none⟩), .string s] wc.drew fun e w' => e = .returned (.tuple #[.int .i64 s.size, .nilIface]) ∧ (∃ bp' tv', Wr lo wb bp' tv' pv3 lg' (pile ++ [nm]) (text ++ (60 :: nm.data.toList)) w' ∧ KeepW lo wb w w' ∧ w'.heap[tb]? = some (.cells #[Value.int .i64 kd, Value.string nm, Value.slice aa an ac, Value.string tx, Value.int .i64 at_] 27 (0, 0))) ∧ w'.cell? ⟨tb, 1, none⟩ = some (.string nm) := fun s hs => by
    have hz := size_list s
    rw [hs, List.length_cons] at hz
    refine (wrStr (hW3.on (Below.refl _ _).drew) s (by omega)).mono ?_
    rintro e w' ⟨rfl, bp', tv', h1, h2⟩
    rw [hs] at h1
    have h3 := h2.t tb _ (show wc.drew.heap[tb]? = some (.cells #[Value.int .i64 kd, Value.string nm, Value.slice aa an ac, Value.string tx, Value.int .i64 at_] 27 (0, 0)) from hT3) hNE.out tok_free
    exact ⟨rfl, ⟨bp', tv', h1, (hK3.trans (KeepW.of (Below.refl _ _).drew hW3.bld.lo)).trans h2, h3⟩, cellH h3 1⟩
  have HSTR := Lib.hid hstr
  have HT1D := Lib.hid (show wc.drew.cell? ⟨tb, 1, none⟩ = some (.string nm) from t1)
  clear hstr hW3 hK3 hT3 hnz
  have hcat : ¬ (9223372036854775807 < 1 + nm.size) := by omega
  go_upto_region 3 with fail
  go_cut [] (fun wx => ∃ bp' tv', Wr lo wb bp' tv' pv3 lg' (pile ++ [nm]) (text ++ (60 :: nm.data.toList)) wx ∧ KeepW lo wb w wx ∧ wx.heap[tb]? = some (.cells #[Value.int .i64 kd, Value.string nm, Value.slice aa an ac, Value.string tx, Value.int .i64 at_] 27 (0, 0)))
  case first =>
    refine wp_region_held_drew (S := fun w' => w'.cell? ⟨tb, 1, none⟩ = some (Value.string nm)) (by kernel_rfl) (HT1D.out) (fun hHeld => ?_)
    refine tkH 0 hHeld ?_
    refine tkH 1 hHeld ?_
    refine tkH 2 hHeld ?_
    refine tkH 3 hHeld ?_
    refine tkH 4 hHeld ?_
    refine tkH 5 hHeld ?_
    refine wpAnyH_ready (rs := [6]) (by kernel_rfl) (by simp) ?_
    refine AllReadyH.cons rfl (fun K hK => ?_) AllReadyH.nil
    go_simp
    go_wp2_with (go_at_call 39; refine (HSTR.out _ ?hs).mono ?_; (case hs => simp); rintro e w4 ⟨rfl, hE, hS4⟩)
    refine hK.out _ _ (hS4) (fun hHeld => ?_)
    clear hK K
    refine wpAnyH_done (by kernel_rfl) ?_ _
    go_wp2_with fail
    go_meet
    case rel => exact hE
  case rest =>
  clear HSTR HT1D t1
  obtain ⟨bp4, tv4, hW4, hK4, hT4⟩ := hcut
  obtain ⟨mb, hmb⟩ : ∃ m, wc.heap.size = m := ⟨_, rfl⟩
  obtain ⟨W5, hw5⟩ : ∃ W, wc.alloc (.map #[] 0) = W := ⟨_, rfl⟩
  have hB5 : Below wc.heap.size wc W5 := by rw [← hw5]; exact (Below.refl _ _).alloc (Nat.le_refl _) _
  have hm5 : MapB W5 mb 0 (fun _ => false) := by rw [← hw5, ← hmb]; exact MapB.made wc
  have hF : Fr lo wb w [(tb, Obj.cells #[Value.int .i64 kd, Value.string nm, Value.slice aa an ac, Value.string tx, Value.int .i64 at_] 27 (0, 0))] mb 0 (fun _ => false) pv3 (pile ++ [nm]) lg' (text ++ (60 :: nm.data.toList)) W5 := by
    have hl := lt_some hW4.bld.blk
    have ht := lt_some hT4
    refine ⟨⟨bp4, tv4, hW4.on hB5⟩, hK4.trans (KeepW.of hB5 hW4.bld.lo), fun p hp => ?_, hm5, ?_, ?_, ?_⟩
    · rw [List.mem_singleton.1 hp]
      exact ⟨(hB5.block _ ht).trans hT4, hNE.out, by simp only; omega, tok_free⟩
    · omega
    · rw [← hmb]; exact hK4.x.size
    · rw [← hmb]; exact hW4.bld.lo
  have hmm := @run_makeMap Tryz.prog
  have HW5 := Lib.hid hw5; have HF := Lib.hid hF; have HMB := Lib.hid hmb
  clear hw5 hB5 hm5 hF hmb hW4 hK4 hT4
  go_upto_region 4 with fail
  go_cut [5] (fun s5 wx => s5 = .map (some mb) ∧ wx = W5)
  case first =>
    go_wp2_with fail
    go_meet
    case rel => exact ⟨by rw [HMB.out], HW5.out⟩
  case rest =>
  obtain ⟨rfl, rfl⟩ := hcut
  clear HW5 hmm HMB
  have t2' : wc.cell? ⟨tb, 2, none⟩ = some (.slice aa an ac) := cellH (HF.out.blk (q := (tb, Obj.cells #[Value.int .i64 kd, Value.string nm, Value.slice aa an ac, Value.string tx, Value.int .i64 at_] 27 (0, 0))) (by simp)) 2
  obtain ⟨tobj, hto⟩ : ∃ o, Obj.cells #[Value.int .i64 kd, Value.string nm, Value.slice aa an ac, Value.string tx, Value.int .i64 at_] 27 (0, 0) = o := ⟨_, rfl⟩
  rw [hto] at HF
  have HTO := Lib.hid hto
  clear hto
  obtain ⟨text', htx'⟩ : ∃ t, text ++ (60 :: nm.data.toList) = t := ⟨_, rfl⟩
  have htl : text'.length ≤ 10000002000000 := by
    have hz := size_list nm
    rw [← htx']; simp only [List.length_append, List.length_cons]; omega
  have HTX := Lib.hid htx'
  rw [htx'] at HF
  clear htx'
  go_wp2_with fail
  go_loopg [51] (an + 1) (fun f s51 wx => ∃ i : Nat, s51 = .int .i64 (i : Int) ∧ f + i = an + 1 ∧ i ≤ an ∧ OpR lo wb w [(tb, tobj)] mb pv3 (pile ++ [nm]) lg' text' A i wx)
  case atStart => exact ⟨0, rfl, rfl, Nat.zero_le _, ⟨by simpa [attrsLong, attrsD] using HF.out, rfl⟩⟩
  case round =>
    clear t2'
    obtain ⟨i, rfl, hg, hi, hF, hok⟩ := hrel
    have HG := Lib.hid hg
    have hi0 : (0 : Int) ≤ i := by omega
    have han : an ≤ 1048576 := by
      have h1 := wtL_len (f := wtAt) (k := 3) (fun x => by unfold wtAt; omega) A
      have := HLEN.out; omega
    by_cases hlt : i < an
    · have f1 : IntKind.i64.wrap ((i : Int) + 1) = (i : Int) + 1 := IntWalk.i64_in _ (by omega)
      have hiI : (i : Int) < an := by omega
      have hil : i < A.length := by have := HLEN.out; omega
      have hBW : Below W0.heap.size W0 wr := HB0.out.trans (hF.k.x.below (by have := hF.wlt; omega) hw0)
      obtain ⟨a1, cc1, e1, hc⟩ := HA.out.on hBW
      injection e1 with e1 e2 e3
      subst e1 e3
      clear e2
      obtain ⟨g1, o1, rfl, hg1, hc1⟩ := hc i hil
      have hwt := wtL_mem (f := wtAt) (List.getElem_mem hil)
      have hAT := any_take hil
      have hLG : (attrsLong (A.take (i + 1))) = (attrsLong (A.take i) || (decide (64 < A[i].1.size) || decide (4096 < A[i].2.size))) := by rw [take_snoc hil, attrsLong_snoc]
      have hTD : attrsD D0 (A.take (i + 1)) = attrsD D0 (A.take i) ++ attrD D0 A[i] := by rw [take_snoc hil, attrsD_snoc]
      have hST := attrsOk_step hil hok
      have hL1 := attrsD_len (A.take i)
      have hL2 := wtL_take wtAt A i
      obtain ⟨pr, hpr⟩ : ∃ pr, A[i] = pr := ⟨_, rfl⟩
      rw [hpr] at hc1 hwt hAT hLG hTD hST
      obtain ⟨K, V⟩ := pr
      have c0 : wr.cell? ⟨g1, o1 + i * 2, none⟩ = some (Value.string K) := hc1 0 (by decide)
      have c1 : wr.cell? ⟨g1, o1 + i * 2 + 1, none⟩ = some (Value.string V) := hc1 1 (by decide)
      have hKV : K.size ≤ 1048576 ∧ V.size ≤ 1048576 := by have hw : K.size + V.size + 3 ≤ wtL wtAt A := hwt; omega
      obtain ⟨hKs, hVs⟩ := hKV
      have hF1 := hF.alloc (o := Obj.cells #[.string K, .string V] 40) at_free
      have HWR := Lib.hid hF.zl
      have HAT := Lib.hid hAT; have HLG := Lib.hid hLG; have HTD := Lib.hid hTD; have HST := Lib.hid hST; have HOK := Lib.hid hok
      have HLT := Lib.hid hlt
      have htl2 : (text' ++ attrsD D0 (A.take i)).length ≤ 10000010000000 := by rw [List.length_append]; omega
      obtain ⟨tx2, htx2⟩ : ∃ t, text' ++ attrsD D0 (A.take i) = t := ⟨_, rfl⟩
      obtain ⟨lg2, hlg2⟩ : ∃ t, (lg' || attrsLong (A.take i)) = t := ⟨_, rfl⟩
      rw [htx2, hlg2] at hF1
      rw [htx2] at htl2
      have HTX2 := Lib.hid htx2; have HLG2 := Lib.hid hlg2
      have HF1 := Lib.hid hF1
      have hEV := escT_len V
      clear hc hc1 hg1 hBW hwt hAT hLG hTD hST hL1 hL2 hpr hF hok hF1 htx2 hlg2 hg hi hlt hil
      go_upto_region 8 with fail
      generalize hw1 : wr.alloc (.cells #[.string K, .string V] 40) = w1 at *
      generalize hab : wr.heap.size = ab at *
      clear hw1 c0 c1
      have HD := Lib.hid (HF1.out.on (Below.refl _ _).drew)
      have hS1 : w1.drew.cell? ⟨ab, 0, none⟩ = some (Value.string K) := cellH (HD.out.blk (q := (ab, Obj.cells #[.string K, .string V] 40 (0, 0))) (by simp)) 0
      have HS1 := Lib.hid hS1
      have hcat : ¬ (9223372036854775807 < 1 + K.size) := by omega
      have hcat2 : ¬ (9223372036854775807 < 1 + K.size + 2) := by omega
      have hstr : ∀ s : ByteArray, s.data.toList = 32 :: (K.data.toList ++ [61, 34]) → Calls Tryz.prog 39 #[.pointer (some ⟨wb, 0, none⟩), .string s] w1.drew fun e w' => e = .returned (.tuple #[.int .i64 s.size, .nilIface]) ∧ Fr lo wb w [(ab, Obj.cells #[.string K, .string V] 40 (0, 0)), (tb, tobj)] mb i (fun q => (A.take i).any fun a => decide (a.1 = q)) pv3 (pile ++ [nm]) lg2 (tx2 ++ (32 :: (K.data.toList ++ [61, 34]))) w' ∧ w'.cell? ⟨ab, 0, none⟩ = some (Value.string K) := fun s hs => by
        have hz := size_list s
        have hk := size_list K
        rw [hs, List.length_cons, List.length_append] at hz
        simp only [List.length_cons, List.length_nil] at hz
        refine (HD.out.str s hs (by omega)).mono ?_
        rintro e w' ⟨rfl, h1⟩
        exact ⟨rfl, h1, cellH (h1.blk (q := (ab, Obj.cells #[.string K, .string V] 40 (0, 0))) (by simp)) 0⟩
      have HSTR := Lib.hid hstr
      clear hstr hS1 hab
      refine wp_region_held_drew (S := fun w' => w'.cell? ⟨ab, 0, none⟩ = some (Value.string K)) (by kernel_rfl) (HS1.out) (fun hHeld => ?_)
      refine tkH 0 hHeld ?_
      refine tkH 1 hHeld ?_
      refine tkH 2 hHeld ?_
      refine tkH 3 hHeld ?_
      refine tkH 4 hHeld ?_
      refine tkH 5 hHeld ?_
      refine tkH 6 hHeld ?_
      refine wpAnyH_ready (rs := [7]) (by kernel_rfl) (by simp) ?_
      refine AllReadyH.cons rfl (fun K hK => ?_) AllReadyH.nil
      go_simp
      go_wp2_with (go_at_call 39; refine (HSTR.out _ ?hs).mono ?_; (case hs => simp); rintro e w4 ⟨rfl, hF4, hS4⟩)
      refine hK.out _ _ (hS4) (fun hHeld => ?_)
      clear hK K
      refine wpAnyH_done (by kernel_rfl) ?_ _
      clear HSTR HD HF1
      have HF4 := Lib.hid hF4
      have a0 : w4.cell? ⟨ab, 0, none⟩ = some (Value.string K) := hS4
      have HFAIL := Lib.hid (fun (h : attrsOk [] (A.take (i + 1)) = false) => attrsOk_no h)
      clear hF4 hS4
      cases hnm2 : nameB K with
      | false =>
        have hw := HF4.out.word K (by omega)
        rw [hnm2] at hw
        have HW := Lib.hid hw
        clear hw
        have HNO := Lib.hid (HFAIL.out (by rw [HST.out]; unfold attrOk; rw [hnm2]; rfl))
        clear hnm2
        go_wp2_with fail
        refine HW.out.mono ?_
        rintro e w5 ⟨rfl, hF5⟩
        have HF5 := Lib.hid hF5
        clear hF5
        go_wp2_with fail
        go_ret
        refine ⟨by rw [HNO.out, Bool.and_false]; rfl, HF5.out.k, fun h => ?_⟩
        rw [HNO.out, Bool.and_false] at h
        cases h
      | true =>
        have hw := HF4.out.word K (by omega)
        rw [hnm2] at hw
        have HW := Lib.hid hw
        clear hw
        have HN2 := Lib.hid hnm2
        clear hnm2
        cases hmet : (A.take i).any fun a => decide (a.1 = K) with
        | true =>
          have HNO := Lib.hid (HFAIL.out (by rw [HST.out]; show (attrOk (K, V) && !((A.take i).any fun b => decide (b.1 = K))) = false; rw [hmet]; simp))
          have HMET := Lib.hid hmet
          clear hmet
          go_wp2_with fail
          refine HW.out.mono ?_
          rintro e w5 ⟨rfl, hF5⟩
          have HF5 := Lib.hid hF5
          have hlk := HF5.out.m.look K (by unfold maxLen; omega)
          simp only [HMET.out] at hlk
          have a5 : w5.cell? ⟨ab, 0, none⟩ = some (Value.string K) := cellH (HF5.out.blk (q := (ab, Obj.cells #[.string K, .string V] 40 (0, 0))) (by simp)) 0
          clear hF5
          go_wp2_with fail
          go_ret
          refine ⟨by rw [HNO.out, Bool.and_false]; rfl, HF5.out.k, fun h => ?_⟩
          rw [HNO.out, Bool.and_false] at h
          cases h
        | false =>
          have HMET := Lib.hid hmet
          clear hmet
          have hto : decide (takenE V = 0) = true ∨ decide (takenE V = 0) = false := by cases decide (takenE V = 0) <;> simp
          rcases hto with htk | htk
          · have HNX := Lib.hid (show attrsOk [] (A.take (i + 1)) = true by rw [HST.out]; show ((nameB K && decide (takenE V = 0)) && !((A.take i).any fun b => decide (b.1 = K))) = true; rw [HN2.out, htk, HMET.out]; rfl)
            have HTK := Lib.hid htk
            clear htk
            go_wp2_with fail
            refine HW.out.mono ?_
            rintro e w5 ⟨rfl, hF5⟩
            have HF5 := Lib.hid hF5
            have hlk := HF5.out.m.look K (by unfold maxLen; omega)
            simp only [HMET.out] at hlk
            have a5 : w5.cell? ⟨ab, 0, none⟩ = some (Value.string K) := cellH (HF5.out.blk (q := (ab, Obj.cells #[.string K, .string V] 40 (0, 0))) (by simp)) 0
            have b5 : w5.cell? ⟨ab, 1, none⟩ = some (Value.string V) := cellH (HF5.out.blk (q := (ab, Obj.cells #[.string K, .string V] 40 (0, 0))) (by simp)) 1
            clear hF5
            have hv := HF5.out.value V (by omega) (by simp only [List.length_append, List.length_cons, List.length_nil]; have := size_list K; omega)
            rw [HTK.out] at hv
            have HV := Lib.hid hv
            clear hv
            go_wp2_with fail
            refine HV.out.mono ?_
            rintro e w6 ⟨rfl, hF6⟩
            have HF6 := Lib.hid hF6
            have a6 : w6.cell? ⟨ab, 0, none⟩ = some (Value.string K) := cellH (HF6.out.blk (q := (ab, Obj.cells #[.string K, .string V] 40 (0, 0))) (by simp)) 0
            obtain ⟨w7, hput, hF7⟩ := HF6.out.put K (by unfold maxLen; omega) (by have := HLT.out; omega)
            have HF7 := Lib.hid hF7
            clear hF6 hF7 a5 b5 hlk
            go_wp2_with fail
            refine (HF7.out.str ⟨#[34]⟩ (l := [34]) rfl (by simp only [List.length_append, List.length_cons, List.length_nil]; have : (⟨#[34]⟩ : ByteArray).size = 1 := rfl; have := size_list K; have := size_list (escT V); omega)).mono ?_
            rintro e w8 ⟨rfl, hF8⟩
            have HF8 := Lib.hid hF8
            clear hF8
            go_wp2_with fail
            go_roundg (an - i)
            case rel =>
              refine ⟨i + 1, by simp, by have := HG.out; have := HLT.out; omega, HLT.out, ?_, HNX.out⟩
              have h := HF8.out.less
              rw [HAT.out] at h
              have e1 : (lg' || attrsLong (A.take (i + 1))) = (lg2 || decide (64 < K.size) || decide (4096 < V.size)) := by
                rw [HLG.out, ← HLG2.out]; simp only [Bool.or_assoc]
              have e2 : text' ++ attrsD D0 (A.take (i + 1)) = tx2 ++ (32 :: (K.data.toList ++ [61, 34])) ++ (escT V).data.toList ++ [34] := by
                rw [HTD.out, ← HTX2.out]
                show text' ++ (attrsD D0 (A.take i) ++ (32 :: ([] ++ (K.data.toList ++ ([61, 34] ++ ((escT V).data.toList ++ [34])))))) = _
                simp
              rw [e1, e2]
              exact h
            case measure => have := HG.out; have := HLT.out; omega
          · have HNO := Lib.hid (HFAIL.out (by rw [HST.out]; show ((nameB K && decide (takenE V = 0)) && !((A.take i).any fun b => decide (b.1 = K))) = false; rw [htk, Bool.and_false]; rfl))
            have HTK := Lib.hid htk
            clear htk
            go_wp2_with fail
            refine HW.out.mono ?_
            rintro e w5 ⟨rfl, hF5⟩
            have HF5 := Lib.hid hF5
            have hlk := HF5.out.m.look K (by unfold maxLen; omega)
            simp only [HMET.out] at hlk
            have a5 : w5.cell? ⟨ab, 0, none⟩ = some (Value.string K) := cellH (HF5.out.blk (q := (ab, Obj.cells #[.string K, .string V] 40 (0, 0))) (by simp)) 0
            have b5 : w5.cell? ⟨ab, 1, none⟩ = some (Value.string V) := cellH (HF5.out.blk (q := (ab, Obj.cells #[.string K, .string V] 40 (0, 0))) (by simp)) 1
            clear hF5
            have hv := HF5.out.value V (by omega) (by simp only [List.length_append, List.length_cons, List.length_nil]; have := size_list K; omega)
            rw [HTK.out] at hv
            have HV := Lib.hid hv
            clear hv
            go_wp2_with fail
            refine HV.out.mono ?_
            rintro e w6 ⟨rfl, hF6⟩
            have HF6 := Lib.hid hF6
            clear hF6
            go_wp2_with fail
            go_ret
            refine ⟨by rw [HNO.out, Bool.and_false]; rfl, HF6.out.k, fun h => ?_⟩
            rw [HNO.out, Bool.and_false] at h
            cases h
    · have hiI : ¬ (i : Int) < an := by omega
      obtain rfl : i = an := by omega
      have hall : A.take i = A := List.take_of_length_le (by have := HLEN.out; omega)
      rw [hall] at hF hok
      have htl2 : (text' ++ attrsD D0 A).length ≤ 10000010000000 := by have := attrsD_len A; rw [List.length_append]; omega
      have hz := size_list nm
      have HOK := Lib.hid hok
      have HF := Lib.hid hF
      have t1 : wr.cell? ⟨tb, 1, none⟩ = some (.string nm) := cellH ((HF.out.blk (q := (tb, tobj)) (by simp)).trans (congrArg some HTO.out.symm)) 1
      clear hF hok hall hg hi hz
      go_wp2_with fail
      refine (HF.out.str ⟨#[62]⟩ (l := [62]) rfl (by have : (⟨#[62]⟩ : ByteArray).size = 1 := rfl; omega)).mono ?_
      rintro e w4 ⟨rfl, hF4⟩
      have HF4 := Lib.hid hF4
      have t1' : w4.cell? ⟨tb, 1, none⟩ = some (.string nm) := cellH ((HF4.out.blk (q := (tb, tobj)) (by simp)).trans (congrArg some HTO.out.symm)) 1
      clear hF4 t1
      go_wp2_with fail
      refine (HF4.out.word nm (by omega)).mono ?_
      rintro e w5 ⟨rfl, hF5⟩
      have HF5 := Lib.hid hF5
      clear hF5
      go_wp2_with fail
      go_ret
      refine ⟨by rw [HOK.out, Bool.and_true]; rfl, HF5.out.k, fun _ => ?_⟩
      obtain ⟨bp', tv', hw⟩ := HF5.out.wr
      refine ⟨bp', tv', pv3, ?_⟩
      have e1 : (lg' || attrsLong A || decide (64 < nm.size)) = (lg || (decide (64 < nm.size) || decide (16 < A.length) || decide (pile.length = 64) || attrsLong A)) := by
        rw [← HLG.out]
        cases lg <;> cases attrsLong A <;> cases decide (64 < nm.size) <;> cases decide (16 < A.length) <;> cases decide (pile.length = 64) <;> rfl
      have e2 : text' ++ attrsD D0 A ++ [62] = text ++ (60 :: (nm.data.toList ++ (attrsD D0 A ++ [62]))) := by
        rw [← HTX.out]; simp
      rw [e1, e2] at hw
      exact hw
end
end

section
open Go.RowKit Go.PlainAid

theorem k21 : ¬ (2 : Int) = 1 := by decide
theorem k31 : ¬ (3 : Int) = 1 := by decide
theorem k32 : ¬ (3 : Int) = 2 := by decide
theorem may_open {pile : List ByteArray} {ahead : Int} {nm tx : ByteArray} {A : List At2} : tkMay pile ahead ⟨1, nm, A, tx, 0⟩ = ((decide (pile ≠ []) || decide (ahead = 0)) && nameB nm && attrsOk [] A) := by
  unfold tkMay; rw [if_pos rfl]
theorem may_close {pile : List ByteArray} {ahead : Int} {nm tx : ByteArray} {A : List At2} : tkMay pile ahead ⟨2, nm, A, tx, 0⟩ = (decide (pile ≠ []) && decide (pile.getLastD ⟨#[]⟩ = nm)) := by
  unfold tkMay; rw [if_neg k21, if_pos rfl]
theorem may_text {pile : List ByteArray} {ahead : Int} {nm tx : ByteArray} {A : List At2} : tkMay pile ahead ⟨3, nm, A, tx, 0⟩ = (decide (pile ≠ []) && decide (ahead ≠ 3) && decide (tx.size ≠ 0) && decide (takenE tx = 0)) := by
  unfold tkMay; rw [if_neg k31, if_neg k32, if_pos rfl]
theorem may_other {pile : List ByteArray} {ahead kd : Int} {nm tx : ByteArray} {A : List At2} (h1 : kd ≠ 1) (h2 : kd ≠ 2) (h3 : kd ≠ 3) : tkMay pile ahead ⟨kd, nm, A, tx, 0⟩ = false := by
  unfold tkMay; rw [if_neg h1, if_neg h2, if_neg h3]
/-- What a token ends with. -/
def TokW (lo wb : Nat) (lg : Bool) (pile : List ByteArray) (text : List UInt8) (ahead : Int) (t : Tk) (w : World) (e : Ending) (w' : World) : Prop :=
  e = .returned (.bool (tkMay pile ahead t)) ∧ KeepW lo wb w w' ∧ (tkMay pile ahead t = true → ∃ bp' tv' pv', Wr lo wb bp' tv' pv' (lg || tkLong pile t) (tkPile pile t) (text ++ tkD t) w')
theorem TokW.no {lo wb : Nat} {lg : Bool} {pile : List ByteArray} {text : List UInt8} {ahead : Int} {t : Tk} {w w' : World} (h : tkMay pile ahead t = false) (hk : KeepW lo wb w w') : TokW lo wb lg pile text ahead t w (.returned (.bool false)) w' :=
  ⟨by rw [h], hk, fun e => by rw [h] at e; cases e⟩
theorem open_tokW {lo wb : Nat} {lg : Bool} {pile : List ByteArray} {text : List UInt8} {nm tx : ByteArray} {A : List At2} {w' : World} (h : ∃ bp' tv' pv', Wr lo wb bp' tv' pv' (lg || (decide (64 < nm.size) || decide (16 < A.length) || decide (pile.length = 64) || attrsLong A)) (pile ++ [nm]) (text ++ (60 :: (nm.data.toList ++ (attrsD D0 A ++ [62])))) w') :
    ∃ bp' tv' pv', Wr lo wb bp' tv' pv' (lg || tkLong pile ⟨1, nm, A, tx, 0⟩) (tkPile pile ⟨1, nm, A, tx, 0⟩) (text ++ tkD ⟨1, nm, A, tx, 0⟩) w' := h
section
variable {lo wb : Nat} {bp tv pv : Value} {lg : Bool} {pile : List ByteArray} {text : List UInt8} {w W0 : World}
set_option maxRecDepth 100000
set_option maxHeartbeats 8000000
theorem token_wr (h : Wr lo wb bp tv pv lg pile text w) (hB0 : Below W0.heap.size W0 w) (hw0 : W0.heap.size ≤ wb) (kd at_ : Int) (nm tx : ByteArray) (aa : Option Addr) (an ac : Nat) (A : List At2) (hA : GAt AtE W0 (.slice aa an ac) A) (hnm : nm.size ≤ 1048576) (hal : wtL wtAt A ≤ 1048576) (htz : tx.size ≤ 1048576) (hpl : pile.length ≤ 10000000) (htx : text.length ≤ 10000000000000) (ahead : Int) :
    Calls Tryz.prog 35 #[.pointer (some ⟨wb, 0, none⟩), .agg #[Value.int .i64 kd, Value.string nm, Value.slice aa an ac, Value.string tx, Value.int .i64 at_], .int .i64 ahead] w fun e w' => TokW lo wb lg pile text ahead ⟨kd, nm, A, tx, 0⟩ w e w' := by
  obtain ⟨pa, pn, pc, hpv⟩ := h.pile.form'
  subst hpv
  have hpn : pile.length = pn := by
    obtain ⟨a, c, e⟩ := h.pile.form
    injection e with _ e _
    exact e.symm
  have hrd := h.pile.read
  obtain ⟨tb, htb⟩ : ∃ tb, w.heap.size = tb := ⟨_, rfl⟩
  have hwbt : wb < tb := by rw [← htb]; exact lt_some h.bld.blk
  have hlo := h.bld.lo
  obtain ⟨w1, hw1⟩ : ∃ w1, w.alloc (.cells #[Value.int .i64 kd, Value.string nm, Value.slice aa an ac, Value.string tx, Value.int .i64 at_] 27) = w1 := ⟨_, rfl⟩
  have hT1 : w1.heap[tb]? = some (.cells #[Value.int .i64 kd, Value.string nm, Value.slice aa an ac, Value.string tx, Value.int .i64 at_] 27 (0, 0)) := by rw [← hw1, ← htb]; exact new_at _ _
  have hBA : Below w.heap.size w w1 := by rw [← hw1]; exact (Below.refl _ _).alloc (Nat.le_refl _) _
  have h1 := h.on hBA
  have c2 : w1.cell? ⟨wb, 2, none⟩ = some (.slice pa pn pc) := cellH h1.bld.blk 2
  have fz2 := freeH h1.bld.blk 2
  have t0 : w1.cell? ⟨tb, 0, none⟩ = some (.int .i64 kd) := cellH hT1 0
  have t1 : w1.cell? ⟨tb, 1, none⟩ = some (.string nm) := cellH hT1 1
  have t2 : w1.cell? ⟨tb, 2, none⟩ = some (.slice aa an ac) := cellH hT1 2
  have t3 : w1.cell? ⟨tb, 3, none⟩ = some (.string tx) := cellH hT1 3
  have t4 : w1.cell? ⟨tb, 4, none⟩ = some (.int .i64 at_) := cellH hT1 4
  have hKX : KeepW lo wb w w1 := KeepW.of hBA hlo
  have hKD : KeepW lo wb w w1.drew := hKX.trans (KeepW.of (Below.refl _ _).drew h1.bld.lo)
  have HRD := Lib.hid hrd
  have HT1 := Lib.hid hT1; have HH1 := Lib.hid h1; have HBA := Lib.hid hBA; have HW1 := Lib.hid hw1; have HLO := Lib.hid hlo; have HTB := Lib.hid htb; have HA := Lib.hid hA; have HB0 := Lib.hid hB0; have HKX := Lib.hid hKX; have HKD := Lib.hid hKD
  have HPN := Lib.hid hpn
  clear hrd hT1 hBA h1 h hlo hA hB0 hpn hKX hKD
  go_enter Tryz.func35, Tryz.ntmps35
  go_upto_region 0 with fail
  go_cut [4] (fun s4 wx => s4 = .pointer (some ⟨tb, 0, none⟩) ∧ wx = w1)
  case first =>
    go_wp2_with fail
    go_meet
    case rel => exact ⟨rfl, rfl⟩
  case rest =>
  obtain ⟨rfl, rfl⟩ := hcut
  clear HW1 HTB
  have hne : tb ≠ wb := by omega
  have HNE := Lib.hid hne
  clear hne
  -- how many are open
  have hcases : (pn = 0 ∧ pile = []) ∨ ∃ k p x, pn = k + 1 ∧ pile = p ++ [x] ∧ p.length = k := by
    cases hp : pile with
    | nil => left; have := HPN.out; rw [hp] at this; exact ⟨this.symm, rfl⟩
    | cons a l =>
      right
      obtain ⟨q, y, hq⟩ : ∃ q y, pile = q ++ [y] := ⟨pile.dropLast, pile.getLast (by rw [hp]; simp), (List.dropLast_concat_getLast _).symm⟩
      have := HPN.out
      rw [hq, List.length_append, List.length_singleton] at this
      exact ⟨q.length, q, y, this.symm, by rw [← hp, hq], rfl⟩
  rcases hcases with ⟨rfl, hpile⟩ | ⟨k, p, x, rfl, hpile, hpk⟩
  · have HP := Lib.hid hpile
    clear hpile
    have f1 : IntKind.i64.wrap (-1) = -1 := IntWalk.i64_in _ (by omega)
    by_cases k1 : kd = 1
    · subst k1
      by_cases ha : ahead = 0
      · subst ha
        have ho := open_wr HH1.out (HB0.out.trans (HBA.out.mono HB0.out.size)) hw0 1 at_ nm tx aa an ac A HA.out hnm hal hpl htx
        have HO := Lib.hid ho
        clear ho
        go_wp2_with fail
        refine HO.out.mono ?_
        rintro e w2 ⟨rfl, hk2, hp2⟩
        have HK2 := Lib.hid hk2; have HP2 := Lib.hid hp2
        clear hk2 hp2
        go_wp2_with fail
        go_ret
        have hm : tkMay pile 0 ⟨1, nm, A, tx, 0⟩ = (nameB nm && attrsOk [] A) := by rw [may_open, HP.out]; simp
        refine ⟨ret_bool hm.symm, HKX.out.trans HK2.out, fun e => ?_⟩
        rw [hm] at e
        exact open_tokW (HP2.out e)
      · have hm : tkMay pile ahead ⟨1, nm, A, tx, 0⟩ = false := by rw [may_open, HP.out, decide_eq_false ha]; simp
        have HM := Lib.hid hm
        clear hm
        go_wp2_with fail
        go_ret
        exact TokW.no HM.out HKX.out
    by_cases k2 : kd = 2
    · subst k2
      have hm : tkMay pile ahead ⟨2, nm, A, tx, 0⟩ = false := by rw [may_close, HP.out]; simp
      have HM := Lib.hid hm
      have hS : wc.drew.cell? ⟨wb, 2, none⟩ = some (.slice pa 0 pc) := c2
      have HS := Lib.hid hS
      clear hm hS
      go_upto_region 6 with fail
      refine wp_region_held_drew (S := fun w' => w'.cell? ⟨wb, 2, none⟩ = some (Value.slice pa 0 pc)) (by kernel_rfl) (HS.out) (fun hHeld => ?_)
      refine tkH 0 hHeld ?_
      refine tkH 1 hHeld ?_
      refine tkH 2 hHeld ?_
      refine skH 3 hHeld ?_
      refine skH 4 hHeld ?_
      refine skH 5 hHeld ?_
      refine skH 6 hHeld ?_
      refine skH 7 hHeld ?_
      refine skH 8 hHeld ?_
      refine skH 9 hHeld ?_
      refine skH 10 hHeld ?_
      refine skH 11 hHeld ?_
      refine skH 12 hHeld ?_
      refine tkH 13 hHeld ?_
      refine wpAnyH_done (by kernel_rfl) ?_ _
      go_wp2_with fail
      go_ret
      exact TokW.no HM.out HKD.out
    by_cases k3 : kd = 3
    · subst k3
      have hm : tkMay pile ahead ⟨3, nm, A, tx, 0⟩ = false := by rw [may_text, HP.out]; simp
      have HM := Lib.hid hm
      clear hm
      go_wp2_with fail
      go_ret
      exact TokW.no HM.out HKX.out
    · have HM := Lib.hid (may_other (pile := pile) (ahead := ahead) (nm := nm) (tx := tx) (A := A) k1 k2 k3)
      go_wp2_with fail
      go_ret
      exact TokW.no HM.out HKX.out
  · have hpne : pile ≠ [] := by rw [hpile]; simp
    have hlast : pile.getLastD ⟨#[]⟩ = x := by rw [hpile]; simp
    have HP := Lib.hid hpile; have HPNE := Lib.hid hpne; have HLAST := Lib.hid hlast; have HPK := Lib.hid hpk
    have hk := HPN.out
    have f1 : IntKind.i64.wrap ((k : Int) + 1 - 1) = (k : Int) := by rw [show (k : Int) + 1 - 1 = k by omega]; exact IntWalk.i64_in _ (by omega)
    have f2 : IntKind.i64.wrap (k : Int) = (k : Int) := IntWalk.i64_in _ (by omega)
    have hk0 : (0 : Int) ≤ k := by omega
    clear hpile hpne hlast hpk hk
    by_cases k1 : kd = 1
    · subst k1
      have ho := open_wr HH1.out (HB0.out.trans (HBA.out.mono HB0.out.size)) hw0 1 at_ nm tx aa an ac A HA.out hnm hal hpl htx
      have HO := Lib.hid ho
      clear ho
      go_wp2_with fail
      refine HO.out.mono ?_
      rintro e w2 ⟨rfl, hk2, hp2⟩
      have HK2 := Lib.hid hk2; have HP2 := Lib.hid hp2
      clear hk2 hp2
      go_wp2_with fail
      go_ret
      have hm : tkMay pile ahead ⟨1, nm, A, tx, 0⟩ = (nameB nm && attrsOk [] A) := by rw [may_open, decide_eq_true HPNE.out]; simp
      refine ⟨ret_bool hm.symm, HKX.out.trans HK2.out, fun e => ?_⟩
      rw [hm] at e
      exact open_tokW (HP2.out e)
    by_cases k2 : kd = 2
    · subst k2
      have hrow : ∃ pg, pa = some ⟨pg, 0, none⟩ ∧ pg < w.heap.size ∧ k + 1 ≤ pc ∧ pc ≤ maxLen ∧ w.cell? ⟨pg, k, none⟩ = some (.string x) := by
        rcases HRD.out with ⟨e, _⟩ | ⟨pg, cap, e, _, g1, g2, g3, g4⟩
        · exact absurd e HPNE.out
        · injection e with e1 e2 e3
          subst e3
          have hkl : k < pile.length := by have := HPN.out; omega
          refine ⟨pg, e1, g1, by have := HPN.out; omega, g3, ?_⟩
          have h := g4 k hkl 0 (by decide)
          have hx : pile[k] = x := by
            have := HPK.out
            simp only [HP.out]
            rw [List.getElem_append_right (by omega)]
            simp
          rw [hx] at h
          simpa [StrE] using h
      obtain ⟨pg, rfl, hpg, hkc, hpm, hcx⟩ := hrow
      have hcx1 : wc.cell? ⟨pg, k, none⟩ = some (.string x) := cell_kept hcx HBA.out
      have hS : wc.drew.cell? ⟨wb, 2, none⟩ = some (.slice (some ⟨pg, 0, none⟩) (k + 1) pc) ∧ wc.drew.cell? ⟨pg, k, none⟩ = some (.string x) ∧ wc.drew.cell? ⟨tb, 1, none⟩ = some (.string nm) := ⟨c2, hcx1, t1⟩
      have HS := Lib.hid hS
      have hkI : (k : Int) < (k : Int) + 1 := by omega
      clear hS hcx
      have hxb := bytes_eqb x nm
      by_cases hx : x = nm
      · have hx' := hx.symm
        subst hx'
        have hxn := str_ne_self' nm
        have hm : tkMay pile ahead ⟨2, nm, A, tx, 0⟩ = true := by rw [may_close, decide_eq_true HPNE.out, HLAST.out, decide_eq_true rfl]; rfl
        have HM := Lib.hid hm
        have hWd := HH1.out.popped
        have hWp := hWd.on (Below.refl _ _).drew
        have hTp : (wc.setCell ⟨wb, 2, none⟩ (.slice (some ⟨pg, 0, none⟩) k pc)).drew.heap[tb]? = some (.cells #[Value.int .i64 2, Value.string nm, Value.slice aa an ac, Value.string tx, Value.int .i64 at_] 27 (0, 0)) := (Below.heap_setCell _ _ _ _ HNE.out).trans HT1.out
        have hKp : KeepW lo wb w (wc.setCell ⟨wb, 2, none⟩ (.slice (some ⟨pg, 0, none⟩) k pc)).drew := (HKX.out.setCell 2 _).trans (KeepW.of (Below.refl _ _).drew hWd.bld.lo)
        have d2 : wc.drew.cell? ⟨wb, 2, none⟩ = some (.slice (some ⟨pg, 0, none⟩) (k + 1) pc) := c2
        have g2 : wc.drew.frozen? ⟨wb, 2, none⟩ = false := fz2
        have HWP := Lib.hid hWp; have HTP := Lib.hid hTp; have HKP := Lib.hid hKp
        clear hm hx hWd hWp hTp hKp hxb
        go_upto_region 6 with fail
        refine wp_region_held_drew (S := fun w' => w'.cell? ⟨wb, 2, none⟩ = some (Value.slice (some ⟨pg, 0, none⟩) (k + 1) pc) ∧ w'.cell? ⟨pg, k, none⟩ = some (Value.string nm) ∧ w'.cell? ⟨tb, 1, none⟩ = some (Value.string nm)) (by kernel_rfl) (HS.out) (fun hHeld => ?_)
        refine tkH 0 hHeld ?_
        refine tkH 1 hHeld ?_
        refine tkH 2 hHeld ?_
        refine tkH 3 hHeld ?_
        refine tkH 4 hHeld ?_
        refine tkH 5 hHeld ?_
        refine tkH 6 hHeld ?_
        refine tkH 7 hHeld ?_
        refine tkH 8 hHeld ?_
        refine tkH 9 hHeld ?_
        refine tkH 10 hHeld ?_
        refine tkH 11 hHeld ?_
        refine tkH 12 hHeld ?_
        refine tkH 13 hHeld ?_
        refine wpAnyH_done (by kernel_rfl) ?_ _
        go_upto_region 9 with fail
        generalize (wc.setCell ⟨wb, 2, none⟩ (.slice (some ⟨pg, 0, none⟩) k pc)).drew = w3 at *
        have hcat : ¬ (9223372036854775807 < 2 + nm.size) := by omega
        have hcat2 : ¬ (9223372036854775807 < 2 + nm.size + 1) := by omega
        have hstr : ∀ s : ByteArray, s.data.toList = [60, 47] ++ (nm.data.toList ++ [62]) → Calls Tryz.prog 39 #[.pointer (some ⟨wb, 0, none⟩), .string s] w3.drew fun e w' => e = .returned (.tuple #[.int .i64 s.size, .nilIface]) ∧ (∃ bp' tv', Wr lo wb bp' tv' (.slice (some ⟨pg, 0, none⟩) k pc) lg pile.dropLast (text ++ ([60, 47] ++ (nm.data.toList ++ [62]))) w' ∧ KeepW lo wb w w') ∧ w'.cell? ⟨tb, 1, none⟩ = some (Value.string nm) := fun s hs => by
          have hz := size_list s
          have hk := size_list nm
          rw [hs] at hz
          simp only [List.length_append, List.length_cons, List.length_nil] at hz
          refine (wrStr (HWP.out.on (Below.refl _ _).drew) s (by omega)).mono ?_
          rintro e w' ⟨rfl, bp', tv', h1, h2⟩
          rw [hs] at h1
          have h8 := h2.t tb _ (show w3.drew.heap[tb]? = some (.cells #[Value.int .i64 2, Value.string nm, Value.slice aa an ac, Value.string tx, Value.int .i64 at_] 27 (0, 0)) from HTP.out) HNE.out tok_free
          exact ⟨rfl, ⟨bp', tv', h1, (HKP.out.trans (KeepW.of (Below.refl _ _).drew HWP.out.bld.lo)).trans h2⟩, cellH h8 1⟩
        have HSTR := Lib.hid hstr
        have HS3 := Lib.hid (show w3.drew.cell? ⟨tb, 1, none⟩ = some (.string nm) from cellH HTP.out 1)
        clear hstr
        refine wp_region_held_drew (S := fun w' => w'.cell? ⟨tb, 1, none⟩ = some (Value.string nm)) (by kernel_rfl) (HS3.out) (fun hHeld => ?_)
        refine tkH 0 hHeld ?_
        refine tkH 1 hHeld ?_
        refine tkH 2 hHeld ?_
        refine tkH 3 hHeld ?_
        refine tkH 4 hHeld ?_
        refine tkH 5 hHeld ?_
        refine tkH 6 hHeld ?_
        refine wpAnyH_ready (rs := [7]) (by kernel_rfl) (by simp) ?_
        refine AllReadyH.cons rfl (fun K hK => ?_) AllReadyH.nil
        go_simp
        go_wp2_with (go_at_call 39; refine (HSTR.out _ ?hs).mono ?_; (case hs => simp); rintro e w4 ⟨rfl, hE, hS4⟩)
        refine hK.out _ _ (hS4) (fun hHeld => ?_)
        clear hK K
        refine wpAnyH_done (by kernel_rfl) ?_ _
        go_wp2_with fail
        go_ret
        obtain ⟨bp', tv', e1, e2⟩ := hE
        refine ⟨by rw [HM.out]; rfl, e2, fun _ => ⟨bp', tv', .slice (some ⟨pg, 0, none⟩) k pc, ?_⟩⟩
        have h1 : tkLong pile ⟨2, nm, A, tx, 0⟩ = false := rfl
        have h2 : tkPile pile ⟨2, nm, A, tx, 0⟩ = pile.dropLast := rfl
        have h3 : tkD ⟨2, nm, A, tx, 0⟩ = [60, 47] ++ (nm.data.toList ++ [62]) := rfl
        rw [h1, h2, h3, Bool.or_false]
        exact e1
      · have hxn : (x.toList != nm.toList) = true := by rw [bne, hxb, decide_eq_false hx]; rfl
        have hxe : (x.toList == nm.toList) = false := by rw [hxb, decide_eq_false hx]
        have hxl : ¬ x.toList = nm.toList := fun e => by rw [e] at hxe; simp at hxe
        have hm : tkMay pile ahead ⟨2, nm, A, tx, 0⟩ = false := by rw [may_close, HLAST.out, decide_eq_false hx, Bool.and_false]
        have HM := Lib.hid hm
        clear hm hx hxb
        go_upto_region 6 with fail
        refine wp_region_held_drew (S := fun w' => w'.cell? ⟨wb, 2, none⟩ = some (Value.slice (some ⟨pg, 0, none⟩) (k + 1) pc) ∧ w'.cell? ⟨pg, k, none⟩ = some (Value.string x) ∧ w'.cell? ⟨tb, 1, none⟩ = some (Value.string nm)) (by kernel_rfl) (HS.out) (fun hHeld => ?_)
        refine tkH 0 hHeld ?_
        refine tkH 1 hHeld ?_
        refine tkH 2 hHeld ?_
        refine tkH 3 hHeld ?_
        refine tkH 4 hHeld ?_
        refine tkH 5 hHeld ?_
        refine tkH 6 hHeld ?_
        refine tkH 7 hHeld ?_
        refine tkH 8 hHeld ?_
        refine tkH 9 hHeld ?_
        refine tkH 10 hHeld ?_
        refine tkH 11 hHeld ?_
        refine tkH 12 hHeld ?_
        refine tkH 13 hHeld ?_
        refine wpAnyH_done (by kernel_rfl) ?_ _
        go_wp2_with fail
        go_ret
        exact TokW.no HM.out HKD.out
    by_cases k3 : kd = 3
    · subst k3
      have hte := ne_empty tx
      by_cases ha : ahead = 3
      · subst ha
        have hm : tkMay pile 3 ⟨3, nm, A, tx, 0⟩ = false := by rw [may_text]; simp
        have HM := Lib.hid hm
        clear hm
        go_wp2_with fail
        go_ret
        exact TokW.no HM.out HKX.out
      by_cases hz : tx.size = 0
      · rw [decide_eq_false (by omega)] at hte
        have hm : tkMay pile ahead ⟨3, nm, A, tx, 0⟩ = false := by rw [may_text, hz]; simp
        have HM := Lib.hid hm
        obtain rfl : tx = ⟨#[]⟩ := tl_size hz
        clear hm
        go_wp2_with fail
        go_ret
        exact TokW.no HM.out HKX.out
      · rw [decide_eq_true hz] at hte
        have hab : (ahead != 3) = true := by simpa using ha
        have hm : tkMay pile ahead ⟨3, nm, A, tx, 0⟩ = decide (takenE tx = 0) := by rw [may_text, decide_eq_true HPNE.out, decide_eq_true hz, decide_eq_true ha]; simp
        have HM := Lib.hid hm
        have hv := value_wr HH1.out tx (by omega) (by have := escT_len tx; omega)
        have HV := Lib.hid hv
        have hte2 : (tx.toList != []) = true := by
          have := hte
          cases h : tx.toList with
          | nil => rw [h] at this; cases this
          | cons => rfl
        clear hm hv
        go_wp2_with fail
        refine HV.out.mono ?_
        rintro e w2 ⟨rfl, hk2, hp2⟩
        have HK2 := Lib.hid hk2; have HP2 := Lib.hid hp2
        clear hk2 hp2
        go_wp2_with fail
        go_ret
        refine ⟨ret_bool HM.out.symm, HKX.out.trans HK2.out, fun _ => ?_⟩
        obtain ⟨bp', tv', hw⟩ := HP2.out
        exact ⟨bp', tv', _, hw⟩
    · have HM := Lib.hid (may_other (pile := pile) (ahead := ahead) (nm := nm) (tx := tx) (A := A) k1 k2 k3)
      go_wp2_with fail
      go_ret
      exact TokW.no HM.out HKX.out
end
end

section
open Go.RowKit Go.PlainAid

/-- What lies in memory reads as this token (but for its place). -/
structure TkIn (w : World) (m : TkMI) (t : Tk) : Prop where
  kind : m.kind = t.kind
  name : m.name = t.name
  text : m.text = t.text
  attrs : GAt AtE w (.slice m.aa m.an m.ac) t.attrs
/-- A slice that reads as tokens (but for their places). -/
def WIn (w : World) (v : Value) (l : List Tk) : Prop :=
  ∃ ms : List TkMI, GAt TkEI w v ms ∧ ms.length = l.length ∧ ∀ j (h : j < ms.length) (h' : j < l.length), TkIn w ms[j] l[j]
theorem WIn.on {w w' : World} {v : Value} {l : List Tk} (h : WIn w v l) (hB : Below w.heap.size w w') : WIn w' v l := by
  obtain ⟨ms, h1, h2, h3⟩ := h
  exact ⟨ms, h1.on hB, h2, fun j hj hj' => ⟨(h3 j hj hj').kind, (h3 j hj hj').name, (h3 j hj hj').text, (h3 j hj hj').attrs.on hB⟩⟩
def toTk (t : TkI) : Tk := ⟨t.kind, t.name, t.attrs, t.text, 0⟩
theorem TisAt.win {w : World} {v : Value} {l : List TkI} (h : TisAt w v l) : WIn w v (l.map toTk) := by
  obtain ⟨ms, h1, h2, h3⟩ := h
  refine ⟨ms, h1, by rw [h2, List.length_map], fun j hj hj' => ?_⟩
  have hl : j < l.length := by rw [List.length_map] at hj'; exact hj'
  have h := h3 j hj hl
  rw [List.getElem_map]
  exact ⟨h.kind, h.name, h.text, h.attrs⟩
def toMI (m : TkM) : TkMI := ⟨m.kind, m.name, m.aa, m.an, m.ac, m.text, (m.at_ : Int)⟩
theorem OutAt.win {lo : Nat} {w : World} {v : Value} {out : List Tk} (h : OutAt lo w v out) : WIn w v out := by
  obtain ⟨ms, h1, h2, h3⟩ := h
  refine ⟨ms.map toMI, ?_, by rw [List.length_map, h2], fun j hj hj' => ?_⟩
  · obtain ⟨a, cap, rfl, hc⟩ := h1.at'
    refine ⟨a, cap, by rw [List.length_map], fun j hj => ?_⟩
    rw [List.length_map] at hj
    obtain ⟨g, off, e, hg, hx⟩ := hc j hj
    refine ⟨g, off, e, hg, fun i hi => ?_⟩
    rw [List.getElem_map]
    exact hx i hi
  · rw [List.length_map] at hj
    have h := h3 j hj hj'
    rw [List.getElem_map]
    exact ⟨h.kind, h.name, h.text, h.attrs.at'⟩
theorem TokW.as {lo wb : Nat} {lg : Bool} {pile : List ByteArray} {text : List UInt8} {ahead : Int} {t : Tk} {w w' : World} {e : Ending} (h : TokW lo wb lg pile text ahead ⟨t.kind, t.name, t.attrs, t.text, 0⟩ w e w') : TokW lo wb lg pile text ahead t w e w' := h
/-- What holds while tokens are written. -/
structure PrR (lo wb : Nat) (w1 : World) (l : List Tk) (i : Nat) (ahead : Int) (wx : World) : Prop where
  ex : ∃ bp tv pv lg pile text, Wr lo wb bp tv pv lg pile text wx ∧ tksMay [] 0 l = tksMay pile ahead (l.drop i) ∧ tksLong [] l = (lg || tksLong pile (l.drop i)) ∧ tksD l = text ++ tksD (l.drop i) ∧ pile.length ≤ i
  k : KeepW lo wb w1 wx
theorem pile_len {pile : List ByteArray} {t : Tk} : (tkPile pile t).length ≤ pile.length + 1 := by
  unfold tkPile
  split
  · simp
  · split
    · simp; omega
    · omega
theorem wr_new {w : World} : Wr (w.heap.size + 1) w.heap.size (.pointer none) (.slice none 0 0) (.slice none 0 0) false [] [] (w.alloc (.cells #[.pointer none, .slice none 0 0, .slice none 0 0, .bool false] 82)) :=
  ⟨⟨new_at _ _, .inl rfl, rfl, World.ownsRow_nil _ _ _ _, by simp [Value.ownBlock], by kernel_rfl, by simp⟩, GRow.nil _ _ _, by omega⟩
section
set_option maxRecDepth 100000
set_option maxHeartbeats 8000000
theorem print_any (w : World) (v : Value) (l : List Tk) (h : WIn w v l) (hsz : ∀ t ∈ l, t.name.size ≤ 1048576 ∧ wtL wtAt t.attrs ≤ 1048576 ∧ t.text.size ≤ 1048576) (hln : l.length ≤ 1048576) (htot : (tksD l).length ≤ 10000000000000) :
    Calls Tryz.prog 15 #[v] w fun e w' => e = .returned (.tuple #[.string (prB l), .int .i64 (prE l)]) ∧ Below w.heap.size w w' := by
  obtain ⟨ms, hr, hm, ht⟩ := h
  obtain ⟨n, hn⟩ : ∃ n, l.length = n := ⟨_, rfl⟩
  rw [hn] at hm hln
  obtain ⟨aa, ca, rfl, hca⟩ := hr
  obtain ⟨wb, hwb⟩ : ∃ b, w.heap.size = b := ⟨_, rfl⟩
  obtain ⟨w1, hw1⟩ : ∃ x, w.alloc (.cells #[.pointer none, .slice none 0 0, .slice none 0 0, .bool false] 82) = x := ⟨_, rfl⟩
  have hW1 : Wr (wb + 1) wb (.pointer none) (.slice none 0 0) (.slice none 0 0) false [] [] w1 := by rw [← hw1, ← hwb]; exact wr_new
  have hB1 : Below w.heap.size w w1 := by rw [← hw1]; exact (Below.refl _ _).alloc (Nat.le_refl _) _
  have hP1 : PrR (wb + 1) wb w1 l 0 0 w1 := ⟨⟨_, _, _, _, _, _, hW1, rfl, rfl, rfl, Nat.zero_le _⟩, KeepW.refl _ _ _⟩
  have HM := Lib.hid hm; have HN := Lib.hid hn; have HT := Lib.hid ht; have HCA := Lib.hid hca; have HSZ := Lib.hid hsz; have HTOT := Lib.hid htot; have HW1 := Lib.hid hw1; have HB1 := Lib.hid hB1; have HP1 := Lib.hid hP1; have HWB := Lib.hid hwb
  rw [hm]
  clear hm hn ht hca hsz htot hw1 hB1 hP1 hW1 hwb
  go_enter Tryz.func15, Tryz.ntmps15
  go_upto_region 1 with fail
  go_cut [4] (fun s4 wx => s4 = .pointer (some ⟨wb, 0, none⟩) ∧ wx = w1)
  case first =>
    go_wp2_with fail
    go_meet
    case rel => exact ⟨by rw [HWB.out], HW1.out⟩
  case rest =>
  obtain ⟨rfl, rfl⟩ := hcut
  clear HW1
  go_wp2_with fail
  go_loopg [5, 12] (n + 1) (fun f s5 s12 wx => ∃ (i : Nat) (ahead : Int), s5 = .int .i64 ahead ∧ s12 = .int .i64 (i : Int) ∧ f + i = n + 1 ∧ i ≤ n ∧ PrR (wb + 1) wb wc l i ahead wx)
  case atStart => exact ⟨0, 0, rfl, rfl, rfl, Nat.zero_le _, HP1.out⟩
  case round =>
    clear HP1
    obtain ⟨i, ahead, rfl, rfl, hg, hi, hP⟩ := hrel
    have HG := Lib.hid hg
    have hi0 : (0 : Int) ≤ i := by omega
    have hK := hP.k
    obtain ⟨bp, tv, pv, lg, pile, text, hWr, q1, q2, q3, q4⟩ := hP.ex
    have hBW : Below w.heap.size w wr := HB1.out.trans (hK.x.below (by have := HWB.out; omega) (by have := HWB.out; omega))
    have htl : text.length ≤ 10000000000000 := by have h := HTOT.out; rw [q3, List.length_append] at h; omega
    by_cases hlt : i < n
    · have f1 : IntKind.i64.wrap ((i : Int) + 1) = (i : Int) + 1 := IntWalk.i64_in _ (by omega)
      have hiI : (i : Int) < n := by omega
      have hil : i < l.length := by have := HN.out; omega
      have him : i < ms.length := by have := HM.out; omega
      obtain ⟨g1, o1, rfl, hg1, hc1⟩ := HCA.out i him
      have t1 := HT.out i him hil
      have hdr : l.drop i = l[i] :: l.drop (i + 1) := List.drop_eq_getElem_cons hil
      have hsz := HSZ.out l[i] (List.getElem_mem _)
      obtain ⟨m, hm⟩ : ∃ m, ms[i] = m := ⟨_, rfl⟩
      obtain ⟨t, htt⟩ : ∃ t, l[i] = t := ⟨_, rfl⟩
      rw [hm] at hc1 t1
      rw [htt] at t1 hdr hsz
      rw [hdr] at q1 q2 q3
      obtain ⟨kd, nm, ta, tn, tc, tx, at_⟩ := m
      obtain ⟨e1, e2, e3, e4⟩ := t1
      simp only at e1 e2 e3 e4
      subst e1 e2 e3
      have c0 : wr.cell? ⟨g1, o1 + i * 5, none⟩ = some (.int .i64 t.kind) := cell_kept (hc1 0 (by decide)) hBW
      have c1 : wr.cell? ⟨g1, o1 + i * 5 + 1, none⟩ = some (.string t.name) := cell_kept (hc1 1 (by decide)) hBW
      have c2 : wr.cell? ⟨g1, o1 + i * 5 + 2, none⟩ = some (.slice ta tn tc) := cell_kept (hc1 2 (by decide)) hBW
      have c3 : wr.cell? ⟨g1, o1 + i * 5 + 3, none⟩ = some (.string t.text) := cell_kept (hc1 3 (by decide)) hBW
      have c4 : wr.cell? ⟨g1, o1 + i * 5 + 4, none⟩ = some (.int .i64 at_) := cell_kept (hc1 4 (by decide)) hBW
      have hAL : Below wr.heap.size wr (wr.alloc (.cells #[.int .i64 t.kind, .string t.name, .slice ta tn tc, .string t.text, .int .i64 at_] 27)) := (Below.refl _ _).alloc (Nat.le_refl _) _
      have hab : (wr.alloc (.cells #[.int .i64 t.kind, .string t.name, .slice ta tn tc, .string t.text, .int .i64 at_] 27)).heap[wr.heap.size]? = some (.cells #[.int .i64 t.kind, .string t.name, .slice ta tn tc, .string t.text, .int .i64 at_] 27 (0, 0)) := new_at _ _
      have hane : wr.heap.size ≠ wb := by have := lt_some hWr.bld.blk; omega
      have htk := token_wr (hWr.on hAL) (hBW.trans (hAL.mono hBW.size)) (by rw [HWB.out]; exact Nat.le_refl _) t.kind at_ t.name t.text ta tn tc t.attrs e4 hsz.1 hsz.2.1 hsz.2.2 (by omega) htl ahead
      have hK2 := hK.trans (KeepW.of hAL hWr.bld.lo)
      have HTK := Lib.hid htk; have HK2 := Lib.hid hK2; have HAB := Lib.hid hab; have HANE := Lib.hid hane; have HLT := Lib.hid hlt; have HQ := Lib.hid (And.intro q1 (And.intro q2 (And.intro q3 q4)))
      clear hc1 hg1 e4 hAL hab hane htk hK2 hlt hil him hsz hdr htt hm q1 q2 q3 q4 hBW hWr hK hP hg hi
      go_upto_region 6 with fail
      generalize hw2 : wr.alloc (.cells #[.int .i64 t.kind, .string t.name, .slice ta tn tc, .string t.text, .int .i64 at_] 27) = w2 at *
      generalize hab : wr.heap.size = ab at *
      clear hw2 c0 c1 c2 c3 c4
      have b0 : w2.cell? ⟨ab, 0, none⟩ = some (.int .i64 t.kind) := cellH HAB.out 0
      have b1 : w2.cell? ⟨ab, 1, none⟩ = some (.string t.name) := cellH HAB.out 1
      have b2 : w2.cell? ⟨ab, 2, none⟩ = some (.slice ta tn tc) := cellH HAB.out 2
      have b3 : w2.cell? ⟨ab, 3, none⟩ = some (.string t.text) := cellH HAB.out 3
      have b4 : w2.cell? ⟨ab, 4, none⟩ = some (.int .i64 at_) := cellH HAB.out 4
      clear hab
      cases hmay : tkMay pile ahead t with
      | false =>
        have HMAY := Lib.hid hmay
        clear hmay
        go_wp2_with fail
        refine HTK.out.mono ?_
        intro e w3 hE
        obtain ⟨rfl, hk3, _⟩ := hE.as
        rw [HMAY.out]
        have HK3 := Lib.hid (HK2.out.trans hk3)
        clear hE hk3
        go_wp2_with fail
        refine bodyPost_ret (results_tmp2 rfl _ _ _) rfl ?_
        have he : prE l = 2 := by
          unfold prE
          rw [HQ.out.1]
          show (if (tkMay pile ahead t && _) = true then _ else _) = _
          rw [HMAY.out]
          rfl
        have hb : prB l = ⟨#[]⟩ := by unfold prB; rw [he]; rfl
        rw [he, hb]
        refine ⟨rfl, HB1.out.trans (HK3.out.x.below (by have := HWB.out; omega) (by have := HWB.out; omega))⟩
      | true =>
        have HMAY := Lib.hid hmay
        clear hmay
        go_wp2_with fail
        refine HTK.out.mono ?_
        intro e w3 hE
        obtain ⟨rfl, hk3, hp3⟩ := hE.as
        rw [HMAY.out]
        have HP3 := Lib.hid (hp3 HMAY.out)
        have hab3 := hk3.t ab _ HAB.out HANE.out tok_free
        have d0 : w3.cell? ⟨ab, 0, none⟩ = some (.int .i64 t.kind) := cellH hab3 0
        have HK3 := Lib.hid (HK2.out.trans hk3)
        clear hE hk3 hp3 hab3 b0 b1 b2 b3 b4
        go_wp2_with fail
        go_roundg (n - i)
        case rel =>
          refine ⟨i + 1, t.kind, rfl, by simp, by have := HG.out; have := HLT.out; omega, HLT.out, ⟨?_, HK3.out⟩⟩
          obtain ⟨bp', tv', pv', hW3⟩ := HP3.out
          obtain ⟨q1, q2, q3, q4⟩ := HQ.out
          refine ⟨bp', tv', pv', _, _, _, hW3, ?_, ?_, ?_, ?_⟩
          · rw [q1]
            show (tkMay pile ahead t && _) = _
            rw [HMAY.out, Bool.true_and]
          · rw [q2]
            show (lg || (tkLong pile t || _)) = _
            rw [Bool.or_assoc]
          · rw [q3]
            show text ++ tksD (t :: l.drop (i + 1)) = _
            unfold tksD
            rw [List.flatMap_cons, List.append_assoc]
          · have := pile_len (pile := pile) (t := t)
            omega
        case measure => have := HG.out; have := HLT.out; omega
    · have hiI : ¬ (i : Int) < n := by omega
      have hdr : l.drop i = [] := List.drop_eq_nil_of_le (by have := HN.out; omega)
      rw [hdr] at q1 q2 q3
      have q1' : tksMay [] 0 l = (decide (pile = []) && decide (ahead ≠ 0)) := q1
      have q2' : tksLong [] l = lg := by rw [q2]; show (lg || false) = lg; rw [Bool.or_false]
      have q3' : tksD l = text := by rw [q3]; show text ++ [] = text; rw [List.append_nil]
      clear q1 q2 q3
      obtain ⟨pa, pn, pc, hpv⟩ := hWr.pile.form'
      subst hpv
      have hpn : pn = pile.length := by
        obtain ⟨a, c, e⟩ := hWr.pile.form
        injection e with _ e _
      have x2 : wr.cell? ⟨wb, 2, none⟩ = some (.slice pa pn pc) := cellH hWr.bld.blk 2
      have x3 : wr.cell? ⟨wb, 3, none⟩ = some (.bool lg) := cellH hWr.bld.blk 3
      have HE := Lib.hid (HB1.out.trans (hK.x.below (N := wb + 1) (x := wb) (M := w.heap.size) (by have := HWB.out; omega) (by have := HWB.out; omega)))
      have HWR := Lib.hid hWr; have HK := Lib.hid hK; have HQ1 := Lib.hid q1'; have HQ2 := Lib.hid q2'; have HQ3 := Lib.hid q3'; have HPN := Lib.hid hpn
      clear hWr hK q1' q2' q3' hP hBW hdr hg hi q4 hpn
      have hno : tksMay [] 0 l = false → prE l = 2 ∧ prB l = ⟨#[]⟩ := fun h => by
        have he : prE l = 2 := by unfold prE; rw [h]; rfl
        exact ⟨he, by unfold prB; rw [he]; rfl⟩
      have HNO := Lib.hid hno
      clear hno
      by_cases ha : ahead = 0
      · subst ha
        have HX := Lib.hid (HNO.out (by rw [HQ1.out]; simp))
        go_wp2_with fail
        refine bodyPost_ret (results_tmp2 rfl _ _ _) rfl ?_
        rw [HX.out.1, HX.out.2]
        exact ⟨rfl, HE.out⟩
      by_cases hp : pn = 0
      · subst hp
        have hpe : pile = [] := List.eq_nil_of_length_eq_zero HPN.out.symm
        have hmay : tksMay [] 0 l = true := by rw [HQ1.out, hpe, decide_eq_true ha]; rfl
        have HMAY := Lib.hid hmay; have HPE := Lib.hid hpe
        clear hmay hpe
        cases lg with
        | true =>
          have he : prE l = 3 := by unfold prE; rw [HMAY.out, if_pos rfl, if_pos (.inl HQ2.out)]
          have hb : prB l = ⟨#[]⟩ := by unfold prB; rw [he]; rfl
          have HX := Lib.hid (And.intro he hb)
          clear he hb
          go_wp2_with fail
          refine bodyPost_ret (results_tmp2 rfl _ _ _) rfl ?_
          rw [HX.out.1, HX.out.2]
          exact ⟨rfl, HE.out⟩
        | false =>
          have hlen := bLen HWR.out.bld
          have HLEN := Lib.hid hlen
          clear hlen
          by_cases hz : 262144 < text.length
          · have he : prE l = 3 := by unfold prE; rw [HMAY.out, if_pos rfl, if_pos (.inr (by rw [HQ3.out]; exact hz))]
            have hb : prB l = ⟨#[]⟩ := by unfold prB; rw [he]; rfl
            have HX := Lib.hid (And.intro he hb)
            have hzI : (262144 : Int) < (text.length : Int) := by omega
            clear he hb hz
            go_wp2_with fail
            refine HLEN.out.mono ?_
            rintro e w' ⟨rfl, rfl⟩
            go_wp2_with fail
            refine bodyPost_ret (results_tmp2 rfl _ _ _) rfl ?_
            rw [HX.out.1, HX.out.2]
            exact ⟨rfl, HE.out⟩
          · have he : prE l = 0 := by unfold prE; rw [HMAY.out, if_pos rfl, if_neg (by rw [HQ2.out, HQ3.out]; simp; omega)]
            have hb : prB l = ⟨text.toArray⟩ := by unfold prB; rw [he, HQ3.out]; rfl
            have HX := Lib.hid (And.intro he hb)
            have hzI : ¬ (262144 : Int) < (text.length : Int) := by omega
            have hstr := bString HWR.out.bld
            have HSTR := Lib.hid hstr
            clear he hb hz hstr
            go_wp2_with fail
            refine HLEN.out.mono ?_
            rintro e w' ⟨rfl, rfl⟩
            go_wp2_with fail
            refine HSTR.out.mono ?_
            rintro e w' ⟨rfl, hkv⟩
            have HE2 := Lib.hid (show Below w.heap.size w w' from ⟨hkv.os.trans HE.out.os, hkv.tape.trans HE.out.tape, hkv.output.trans HE.out.output, Nat.le_trans HE.out.size hkv.size, fun k hk => (hkv.block k (Nat.lt_of_lt_of_le hk HE.out.size) (fun e => by have := (HWR.out.bld.own_lt e).1; have := HWB.out; omega)).trans (HE.out.block k hk)⟩)
            clear hkv
            go_wp2_with fail
            refine bodyPost_ret (results_tmp2 rfl _ _ _) rfl ?_
            rw [HX.out.1, HX.out.2]
            exact ⟨rfl, HE2.out⟩
      · have HX := Lib.hid (HNO.out (by rw [HQ1.out, decide_eq_false (fun e => hp (by rw [HPN.out, e]; rfl))]; rfl))
        have hpI : (0 : Int) < (pn : Int) := by omega
        clear hp
        go_wp2_with fail
        refine bodyPost_ret (results_tmp2 rfl _ _ _) rfl ?_
        rw [HX.out.1, HX.out.2]
        exact ⟨rfl, HE.out⟩
end
end
end Go.Proofs.YtdipbfchlopeaaaGreatDoor
