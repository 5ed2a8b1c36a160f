/-
  Rules for numbers: what holds while a relation is read: the scanner, the builder, blocks of one's own, the ranges' row; the steps that keep it.
-/
import Derived.Test.YtgbemhehbhlgpaaGreatDoorPlT
import Derived.Test.YtgbemhehbhlgpaaGreatDoorPlV
namespace Go.Proofs.YtgbemhehbhlgpaaGreatDoor
open Go.RowKit Go.PlainAid

def tc (t : ByteArray) : List Value := Lib.byteCells t.data.toList
theorem tc_append (a b : ByteArray) : tc (a ++ b) = tc a ++ Lib.strCells b := by
  unfold tc
  rw [ByteArray.data_append, Array.toList_append]
  simp [Lib.byteCells, Lib.strCells]
theorem tc_length (a : ByteArray) : (tc a).length = a.size := by unfold tc; rw [Lib.byteCells_length, Array.length_toList]; rfl

/-- Every block that is neither of two and no row of bytes stands as it stood. -/
def KP (sb bb : Nat) (w w' : World) : Prop := ∀ k x, w.heap[k]? = some x → k ≠ sb → k ≠ bb → (∀ c fz, x ≠ .cells c 5 fz) → w'.heap[k]? = some x
theorem KP.refl (sb bb : Nat) (w : World) : KP sb bb w w := fun _ _ h _ _ _ => h
theorem KP.trans {sb bb : Nat} {a b c : World} (h : KP sb bb a b) (k : KP sb bb b c) : KP sb bb a c := fun i o hi h1 h2 h3 => k i o (h i o hi h1 h2 h3) h1 h2 h3
theorem lt_some {w : World} {k : Nat} {o : Obj} (h : w.heap[k]? = some o) : k < w.heap.size := by
  rcases Nat.lt_or_ge k w.heap.size with g | g
  · exact g
  · simp [Array.getElem?_eq_none g] at h
theorem KP.of {sb bb : Nat} {w w' : World} (h : Below w.heap.size w w') : KP sb bb w w' := fun k _ ho _ _ _ => (h.block k (lt_some ho)).trans ho
theorem KP.only {sb bb : Nat} {w w' : World} (h : Only sb w w') : KP sb bb w w' := fun k _ ho h1 _ _ => (h.block k (lt_some ho) h1).trans ho
theorem KP.okp {sb bb : Nat} {w w' : World} (h : OKp bb w w') : KP sb bb w w' := fun k o ho _ h2 h3 => h k o ho (fun e => h2 (by injection e)) h3
theorem KP.fr {sb bb lo : Nat} {w w' : World} (h : KP sb bb w w') (h1 : sb < lo) (h2 : bb < lo) : Fr lo w w' := fun k o hk ho hn => h k o ho (by omega) (by omega) (fun c fz => (hn c fz).1)
theorem KP.row {α : Type} {E : ETy α} {sb bb base : Nat} {w w' : World} {v : Value} {l : List α} (h : KP sb bb w w') (hr : GRow E base w v l) (h1 : sb < base) (h2 : bb < base) (hE : E.T ≠ 5) : GRow E base w' v l :=
  hr.later fun g hg => by
    obtain ⟨c, hc⟩ := hr.kind g hg
    have := hr.own g hg
    rw [h g _ hc (by omega) (by omega) (fun c' fz e => hE (by injection e)), hc]
theorem bld_kept {B b : Nat} {bs : List Value} {w w' : World} (h : IsBld B b bs w) (hb : ∀ k, B ≤ k → k < w.heap.size → w'.heap[k]? = w.heap[k]?) : IsBld B b bs w' := by
  have key : ∀ p, BldAt B b p bs w → BldAt B b p bs w' := by
    rintro p ⟨h1, v, h2, h3, h4⟩
    refine ⟨h1, v, (hb b h1 (Array.getElem?_eq_some_iff.1 h2).1).trans h2, ?_, h4⟩
    obtain ⟨k1, k2⟩ := h3
    refine ⟨k1, ?_⟩
    rcases k2 with k2 | ⟨g, cap, cur, hv, hg, hh, r⟩
    · exact .inl k2
    · exact .inr ⟨g, cap, cur, hv, hg, (hb g hg (Array.getElem?_eq_some_iff.1 hh).1).trans hh, r⟩
  rcases h with h | h
  · exact .inl (key _ h)
  · exact .inr (key _ h)
theorem bld_on {B b : Nat} {bs : List Value} {w w' : World} (h : IsBld B b bs w) (hb : Below w.heap.size w w') : IsBld B b bs w' := bld_kept h fun k _ hk => hb.block k hk

theorem BTnew (w : World) (cs : Array Value) (T : TypeId) : (w.alloc (.cells cs T)).heap[w.heap.size]? = some (.cells cs T (0, 0)) := by
  show (w.heap.push _)[w.heap.size]? = _
  simp
/-- What holds while a relation is read. -/
structure RS (w0 wS : World) (sb bb : Nat) (s : ByteArray) (a : Nat) (t : ByteArray) (own : List (Nat × Array Value × TypeId)) (rv : Value) (rl : List (Nat × Nat)) (w : World) : Prop where
  sc : Sc w sb s a (tx s a)
  bld : IsBld bb bb (tc t) w
  bel : Below w0.heap.size w0 w
  kp : KP sb bb wS w
  mem : ∀ x ∈ own, w.heap[x.1]? = some (.cells x.2.1 x.2.2 (0, 0)) ∧ wS.heap.size ≤ x.1 ∧ x.2.2 ≠ 5
  row : GRow SpE wS.heap.size w rv rl
  pg : PG w0
  o1 : w0.heap.size ≤ sb
  o2 : sb < bb
  o3 : bb < wS.heap.size
  o5 : wS.heap.size ≤ w.heap.size
  ain : a ≤ s.size
  sin : s.size ≤ 4096
theorem RS.pgw {w0 wS : World} {sb bb : Nat} {s : ByteArray} {a : Nat} {t : ByteArray} {own : List (Nat × Array Value × TypeId)} {rv : Value} {rl : List (Nat × Nat)} {w : World} (h : RS w0 wS sb bb s a t own rv rl w) : PG w := h.pg.on h.bel
/-- A step that keeps all but the scanner, or the builder. -/
theorem RS.step {w0 wS : World} {sb bb : Nat} {s : ByteArray} {a : Nat} {t : ByteArray} {own : List (Nat × Array Value × TypeId)} {rv : Value} {rl : List (Nat × Nat)} {w : World} (h : RS w0 wS sb bb s a t own rv rl w) {w' : World} {a' : Nat} {t' : ByteArray}
    (hk : KP sb bb w w') (hB : Below w0.heap.size w w') (hs : Sc w' sb s a' (tx s a')) (hb : IsBld bb bb (tc t') w') (ha : a' ≤ s.size) : RS w0 wS sb bb s a' t' own rv rl w' :=
  ⟨hs, hb, h.bel.trans hB, h.kp.trans hk, fun x hx => by
    obtain ⟨h1, h2, h3⟩ := h.mem x hx
    have := h.o2
    have := h.o3
    exact ⟨hk _ _ h1 (by omega) (by omega) (fun c fz e => h3 (by injection e)), h2, h3⟩, hk.row h.row (by have := h.o2; have := h.o3; omega) h.o3 (by decide), h.pg, h.o1, h.o2, h.o3, Nat.le_trans h.o5 hB.size, ha, h.sin⟩
theorem RS.on {w0 wS : World} {sb bb : Nat} {s : ByteArray} {a : Nat} {t : ByteArray} {own : List (Nat × Array Value × TypeId)} {rv : Value} {rl : List (Nat × Nat)} {w : World} (h : RS w0 wS sb bb s a t own rv rl w) {w' : World} (hB : Below w.heap.size w w') : RS w0 wS sb bb s a t own rv rl w' :=
  h.step (.of hB) (hB.mono h.bel.size) (h.sc.on hB) (bld_on h.bld hB) h.ain
theorem RS.new {w0 wS : World} {sb bb : Nat} {s : ByteArray} {a : Nat} {t : ByteArray} {own : List (Nat × Array Value × TypeId)} {rv : Value} {rl : List (Nat × Nat)} {w : World} (h : RS w0 wS sb bb s a t own rv rl w) (cs : Array Value) (T : TypeId) (hT : T ≠ 5) : RS w0 wS sb bb s a t ((w.heap.size, cs, T) :: own) rv rl (w.alloc (.cells cs T)) := by
  have h2 := h.on ((Below.refl w.heap.size w).alloc (Nat.le_refl _) (.cells cs T))
  refine { h2 with mem := fun x hx => ?_ }
  rcases List.mem_cons.1 hx with rfl | hx
  · exact ⟨(BTnew w cs T), h.o5, hT⟩
  · exact h2.mem x hx
/-- A store into a block of one's own. -/
theorem RS.set {w0 wS : World} {sb bb : Nat} {s : ByteArray} {a : Nat} {t : ByteArray} {own : List (Nat × Array Value × TypeId)} {rv : Value} {rl : List (Nat × Nat)} {w : World} (h : RS w0 wS sb bb s a t own rv rl w) (b i : Nat) (u : Value) (cs : Array Value) (T : TypeId) (own' : List (Nat × Array Value × TypeId))
    (hm : (b, cs, T) ∈ own) (hT : rv.ownBlock ≠ some b) (ho : ∀ x ∈ own', x = (b, cs.setIfInBounds i u, T) ∨ (x ∈ own ∧ x.1 ≠ b)) : RS w0 wS sb bb s a t own' rv rl (w.setCell ⟨b, i, none⟩ u) := by
  obtain ⟨m1, m2, m3⟩ := h.mem _ hm
  simp only at m1 m2 m3
  have q1 := h.o1; have q2 := h.o2; have q3 := h.o3
  have hother : ∀ k, k ≠ b → (w.setCell ⟨b, i, none⟩ u).heap[k]? = w.heap[k]? := fun k hk => Below.heap_setCell _ _ _ _ hk
  have hz : (w.setCell ⟨b, i, none⟩ u).heap.size = w.heap.size := by simp [World.setCell]
  refine ⟨?_, ?_, h.bel.setCell (by simp only; omega) _, ?_, ?_, ?_, h.pg, h.o1, h.o2, h.o3, by rw [hz]; exact h.o5, h.ain, h.sin⟩
  · exact Blk.other h.sc b i u (by omega)
  · rcases h.bld with hb | hb
    · refine .inl ?_
      obtain ⟨h1, v, h2, h3, h4⟩ := hb
      refine ⟨h1, v, (hother bb (by omega)).trans h2, ?_, h4⟩
      obtain ⟨k1, k2⟩ := h3
      refine ⟨k1, ?_⟩
      rcases k2 with k2 | ⟨g, cap, cur, hv, hg, hh, r⟩
      · exact .inl k2
      · refine .inr ⟨g, cap, cur, hv, hg, (hother g (fun e => m3 ?_)).trans hh, r⟩
        rw [e, m1] at hh
        injection hh with hh
        injection hh
    · refine .inr ?_
      obtain ⟨h1, v, h2, h3, h4⟩ := hb
      refine ⟨h1, v, (hother bb (by omega)).trans h2, ?_, h4⟩
      obtain ⟨k1, k2⟩ := h3
      refine ⟨k1, ?_⟩
      rcases k2 with k2 | ⟨g, cap, cur, hv, hg, hh, r⟩
      · exact .inl k2
      · refine .inr ⟨g, cap, cur, hv, hg, (hother g (fun e => m3 ?_)).trans hh, r⟩
        rw [e, m1] at hh
        injection hh with hh
        injection hh
  · intro k o ho h1 h2 h3
    rw [hother k (by have := lt_some ho; omega)]
    exact h.kp k o ho h1 h2 h3
  · intro x hx
    rcases ho x hx with rfl | ⟨g1, g2⟩
    · exact ⟨Go.Joins.block_setCell m1 u, m2, m3⟩
    · obtain ⟨k1, k2, k3⟩ := h.mem x g1
      exact ⟨(hother _ g2).trans k1, k2, k3⟩
  · exact h.row.later fun g hg => hother g fun e => hT (by rw [hg, e])
theorem RS.row_ne {w0 wS : World} {sb bb : Nat} {s : ByteArray} {a : Nat} {t : ByteArray} {own : List (Nat × Array Value × TypeId)} {rv : Value} {rl : List (Nat × Nat)} {w : World} (h : RS w0 wS sb bb s a t own rv rl w) {b : Nat} {cs : Array Value} {T : TypeId} (hm : (b, cs, T) ∈ own) (hT : T ≠ SpE.T) : rv.ownBlock ≠ some b := fun e => by
  obtain ⟨c, hc⟩ := h.row.kind b e
  have h1 := (h.mem _ hm).1
  simp only at h1
  rw [h1] at hc
  injection hc with hc
  injection hc with _ hc
  exact hT hc
theorem RS.blk {w0 wS : World} {sb bb : Nat} {s : ByteArray} {a : Nat} {t : ByteArray} {own : List (Nat × Array Value × TypeId)} {rv : Value} {rl : List (Nat × Nat)} {w : World} (h : RS w0 wS sb bb s a t own rv rl w) {b : Nat} {cs : Array Value} {T : TypeId} (hm : (b, cs, T) ∈ own) : Blk w b cs := ⟨T, (h.mem _ hm).1⟩

theorem number_no (b : Nat) (s t : ByteArray) (a : Nat) (w : World) (hk : Sc w b s a t) (ht : TkS t) (hn : numOf t = none) (hP : PG w) :
    Calls Tryz.prog 66 #[.pointer (some ⟨b, 0, none⟩)] w fun e w' => e = .returned (.tuple #[.int .i64 0, .bool false]) ∧ Sc w' b s a t ∧ Only b w w' := by
  by_cases h9 : 9 < t.size
  · exact number_long b s t a w hk h9
  · rcases ht with h0 | hd | h0
    · exact number_bad b s t a w hk (by omega) (int_bad (.inl h0)) hP
    · by_cases h1 : t.size = 0
      · exact number_bad b s t a w hk (by omega) (int_bad (.inl h1)) hP
      · have h2 : 1 < t.size ∧ bt t 0 = 48 := by
          refine Classical.byContradiction fun g => ?_
          unfold numOf at hn
          rw [if_pos ⟨by omega, by omega, hd, g⟩] at hn
          cases hn
        exact number_nought b s t a w hk h2.1 (by omega) hd h2.2 hP
    · exact number_bad b s t a w hk (by omega) (int_bad (.inr h0)) hP

section
variable {w0 wS : World} {sb bb : Nat} {s : ByteArray} {a : Nat} {t : ByteArray} {own : List (Nat × Array Value × TypeId)} {rv : Value} {rl : List (Nat × Nat)} {w : World}
theorem RS.next (h : RS w0 wS sb bb s a t own rv rl w) :
    Calls Tryz.prog 37 #[.pointer (some ⟨sb, 0, none⟩)] w fun e w' => e = .returned (.tuple #[]) ∧ RS w0 wS sb bb s (nx s a) t own rv rl w' := by
  have hz := tx_size h.ain
  have hin := tkN_in h.ain
  refine (next_any sb s (tx s a) a w h.sc (by omega) (by have := h.sin; omega)).mono ?_
  rintro e w' ⟨rfl, h1, h2⟩
  rw [hz] at h1
  exact ⟨rfl, h.step (.only h2) (h2.below h.o1 h.bel.size) h1 (bld_kept h.bld fun k hk hl => h2.block k hl (by have := h.o2; omega)) (nx_in h.ain)⟩
theorem RS.number_yes (h : RS w0 wS sb bb s a t own rv rl w) {n : Nat} (hn : numOf (tx s a) = some n) :
    Calls Tryz.prog 66 #[.pointer (some ⟨sb, 0, none⟩)] w fun e w' => e = .returned (.tuple #[.int .i64 (n : Int), .bool true]) ∧ RS w0 wS sb bb s (nx s a) t own rv rl w' := by
  have hz := tx_size h.ain
  have hin := tkN_in h.ain
  refine (Go.Proofs.YtgbemhehbhlgpaaGreatDoor.number_yes sb s (tx s a) a n w h.sc (by omega) (by have := h.sin; omega) hn h.pgw).mono ?_
  rintro e w' ⟨rfl, h1, h2⟩
  rw [hz] at h1
  exact ⟨rfl, h.step (.only h2) (h2.below h.o1 h.bel.size) h1 (bld_kept h.bld fun k hk hl => h2.block k hl (by have := h.o2; omega)) (nx_in h.ain)⟩
theorem RS.number_no (h : RS w0 wS sb bb s a t own rv rl w) (hn : numOf (tx s a) = none) :
    Calls Tryz.prog 66 #[.pointer (some ⟨sb, 0, none⟩)] w fun e w' => e = .returned (.tuple #[.int .i64 0, .bool false]) ∧ RS w0 wS sb bb s a t own rv rl w' := by
  refine (Go.Proofs.YtgbemhehbhlgpaaGreatDoor.number_no sb s (tx s a) a w h.sc (tk_shape h.ain) hn h.pgw).mono ?_
  rintro e w' ⟨rfl, h1, h2⟩
  exact ⟨rfl, h.step (.only h2) (h2.below h.o1 h.bel.size) h1 (bld_kept h.bld fun k hk hl => h2.block k hl (by have := h.o2; omega)) h.ain⟩
theorem RS.write (h : RS w0 wS sb bb s a t own rv rl w) (u : ByteArray) (hz : t.size + u.size ≤ 100000000) :
    Calls Tryz.prog 40 #[.pointer (some ⟨bb, 0, none⟩), .string u] w fun e w' => e = .returned (.tuple #[.int .i64 u.size, .nilIface]) ∧ RS w0 wS sb bb s a (t ++ u) own rv rl w' := by
  have q1 := h.o1; have q2 := h.o2; have q3 := h.o3; have q5 := h.o5
  refine (write_kept bb bb (tc t) u w h.bld (by rw [tc_length]; omega) (by omega)).mono ?_
  rintro e w' ⟨rfl, h1, h2, h3⟩
  rw [← tc_append] at h1
  refine ⟨rfl, h.step (.okp h3) (h2.mono (by omega)) ?_ h1 h.ain⟩
  obtain ⟨T, hT⟩ := h.sc
  exact ⟨T, (h2.block sb (by omega)).trans hT⟩
theorem RS.format (h : RS w0 wS sb bb s a t own rv rl w) {n : Nat} (hn : n ≤ 9223372036854775807) :
    Calls Tryz.prog 50 #[.int .i64 (n : Int), .int .i64 10] w fun e w' => e = .returned (.string (digs n)) ∧ RS w0 wS sb bb s a t own rv rl w' := by
  refine (formatInt n hn w h.pgw).mono ?_
  rintro e w' ⟨rfl, h1⟩
  exact ⟨rfl, h.on h1⟩
theorem RS.operand_yes (h : RS w0 wS sb bb s a t own rv rl w) {o : Int} (ho : opOf (tx s a) = some o) :
    Calls Tryz.prog 65 #[.string (tx s a)] w fun e w' => e = .returned (.func (.func (opFn o)) #[] #[]) ∧ RS w0 wS sb bb s a t own rv rl w' := by
  refine (Go.Proofs.YtgbemhehbhlgpaaGreatDoor.operand_yes (tx s a) o w ho).mono ?_
  rintro e w' ⟨rfl, h1⟩
  exact ⟨rfl, h.on h1⟩
theorem RS.operand_no (h : RS w0 wS sb bb s a t own rv rl w) (ho : opOf (tx s a) = none) :
    Calls Tryz.prog 65 #[.string (tx s a)] w fun e w' => e = .returned .nilFunc ∧ RS w0 wS sb bb s a t own rv rl w' := by
  refine (Go.Proofs.YtgbemhehbhlgpaaGreatDoor.operand_no (tx s a) w (by rw [tx_size h.ain]; have := tkN_in h.ain; have := h.sin; omega) ho).mono ?_
  rintro e w' ⟨rfl, h1⟩
  exact ⟨rfl, h.on h1⟩
/-- A range put behind the ranges. -/
theorem RS.snoc (h : RS w0 wS sb bb s a t own rv rl w) {rv' : Value} {x : Nat × Nat} {w' : World} (hr : GRow SpE wS.heap.size w' rv' (rl ++ [x])) (hg : w.grownBy w' rv.ownBlock) (hT : ∀ y ∈ own, y.2.2 ≠ SpE.T) : RS w0 wS sb bb s a t own rv' (rl ++ [x]) w' := by
  have q1 := h.o1; have q2 := h.o2; have q3 := h.o3; have q5 := h.o5
  have hkeep : ∀ k, k < w.heap.size → rv.ownBlock ≠ some k → w'.heap[k]? = w.heap[k]? := fun k hk hne => hg.block k hk (fun e => hne e.symm)
  have hown := h.row.own
  have hB : Below wS.heap.size w w' := grown_below hg (by omega) hown
  refine ⟨?_, ?_, h.bel.trans (hB.mono (by omega)), ?_, ?_, hr, h.pg, h.o1, h.o2, h.o3, Nat.le_trans h.o5 hB.size, h.ain, h.sin⟩
  · obtain ⟨T, hT⟩ := h.sc
    exact ⟨T, (hB.block sb (by omega)).trans hT⟩
  · rcases h.bld with hb | hb
    · refine .inl ?_
      obtain ⟨h1, v, h2, h3, h4⟩ := hb
      refine ⟨h1, v, (hB.block bb (by omega)).trans h2, ?_, h4⟩
      obtain ⟨k1, k2⟩ := h3
      refine ⟨k1, ?_⟩
      rcases k2 with k2 | ⟨g, cap, cur, hv, hg', hh, r⟩
      · exact .inl k2
      · refine .inr ⟨g, cap, cur, hv, hg', (hkeep g (lt_some hh) (fun e => ?_)).trans hh, r⟩
        obtain ⟨c, hc⟩ := h.row.kind g e
        rw [hh] at hc
        injection hc with hc
        injection hc with _ hc
        exact absurd hc (by decide)
    · refine .inr ?_
      obtain ⟨h1, v, h2, h3, h4⟩ := hb
      refine ⟨h1, v, (hB.block bb (by omega)).trans h2, ?_, h4⟩
      obtain ⟨k1, k2⟩ := h3
      refine ⟨k1, ?_⟩
      rcases k2 with k2 | ⟨g, cap, cur, hv, hg', hh, r⟩
      · exact .inl k2
      · refine .inr ⟨g, cap, cur, hv, hg', (hkeep g (lt_some hh) (fun e => ?_)).trans hh, r⟩
        obtain ⟨c, hc⟩ := h.row.kind g e
        rw [hh] at hc
        injection hc with hc
        injection hc with _ hc
        exact absurd hc (by decide)
  · intro k o ho h1 h2 h3
    have := lt_some ho
    rw [hkeep k (by omega) (fun e => by have := hown k e; omega)]
    exact h.kp k o ho h1 h2 h3
  · intro y hy
    obtain ⟨m1, m2, m3⟩ := h.mem y hy
    refine ⟨(hkeep _ (lt_some m1) (fun e => ?_)).trans m1, m2, m3⟩
    obtain ⟨c, hc⟩ := h.row.kind _ e
    rw [m1] at hc
    injection hc with hc
    injection hc with _ hc
    exact hT y hy hc
end
end Go.Proofs.YtgbemhehbhlgpaaGreatDoor
