/-
  The reader of files: a builder of its own, pieces of a value.
-/
import Derived.Test.YtnmpbphnfiiafaaGreatDoorXmI
namespace Go.Proofs.YtnmpbphnfiiafaaGreatDoor
open Go.RowKit Go.PlainAid

section
variable {lo b o : Nat} {T : TypeId} {cs : Array Value} {v : Value} {bs : List UInt8} {w : World}
theorem Bld.later (h : Bld lo b o T cs v bs w) {w' : World} (hb : w'.heap[b]? = w.heap[b]?) (hg : ∀ g, v.ownBlock = some g → w'.heap[g]? = w.heap[g]?) (hl : lo ≤ w'.heap.size) : Bld lo b o T cs v bs w' :=
  ⟨hb.trans h.blk, h.p, h.q, ownsRow_later h.row hg, h.ne, h.lies, hl⟩
theorem Bld.own_lt (h : Bld lo b o T cs v bs w) {g : Nat} (hg : v.ownBlock = some g) : lo ≤ g ∧ g < w.heap.size := World.ownsRow.lt h.row g hg
theorem Bld.on (h : Bld lo b o T cs v bs w) {w' : World} (hB : Below w.heap.size w w') : Bld lo b o T cs v bs w' :=
  h.later (hB.block b (lt_some h.blk)) (fun g hg => hB.block g (h.own_lt hg).2) (Nat.le_trans h.lo hB.size)
end
/-- A builder of its own, new. -/
theorem bld_new (w : World) (lo : Nat) (hl : lo ≤ w.heap.size) : Bld lo w.heap.size 0 70 #[.pointer none, .slice none 0 0] (.slice none 0 0) [] (w.alloc (.cells #[.pointer none, .slice none 0 0] 70)) :=
  ⟨(by show (w.heap.push _)[w.heap.size]? = _; simp), .inl rfl, rfl, ⟨rfl, .inl ⟨rfl, rfl⟩⟩, by simp [Value.ownBlock], by kernel_rfl, by simp; omega⟩
/-- A rune into a builder of its own: the reader stands. -/
theorem wrote_kept {rb : Nat} {s : ByteArray} {cs csb : Array Value} {w wr W w1 : World} {p vb : Nat} {v : Value} {acc l : List UInt8} {T : TypeId} (hM : Moved rb s cs w p wr) (hrb : rb < w.heap.size) (hvb : w.heap.size ≤ vb) (hb : Bld w.heap.size vb 0 T csb v acc wr) (hB : Below wr.heap.size wr W) (hW : Wrote w.heap.size vb 0 T csb v acc l W w1) :
    Moved rb s cs w p w1 := by
  obtain ⟨v', h1, h2, h3⟩ := hW
  have hz := hM.2.size
  have hMW := hM.on hB
  have hzW := hMW.2.size
  have ht := hMW.1.blk
  have hlt := ht.lt'
  refine ⟨⟨(h2.block rb hlt (by omega) (fun e => by have := (hb.own_lt e).1; omega)).trans ht, hMW.1.c0, hMW.1.c1⟩, hMW.2.trans ⟨h2.os, h2.tape, h2.output, h2.size, fun k hk hx => ?_⟩⟩
  exact h2.block k (by have := hMW.2.size; omega) (by omega) (fun e => by have := (hb.own_lt e).1; omega)
/-- .. the reader has moved. -/
theorem wrote_moved {rb : Nat} {s : ByteArray} {cs csb : Array Value} {w wr W w1 : World} {p vb : Nat} {v : Value} {acc l : List UInt8} {T : TypeId} (hM : Moved rb s cs w p wr) (hrb : rb < w.heap.size) (hvb : w.heap.size ≤ vb) (hb : Bld w.heap.size vb 0 T csb v acc wr) (hB : Below wr.heap.size wr W) (hW : Wrote w.heap.size vb 0 T csb v acc l W w1) (q : Nat) :
    Moved rb s cs w q (w1.setCell ⟨rb, 1, none⟩ (.int .i64 (q : Int))) ∧ ∃ csb' v', Bld w.heap.size vb 0 T csb' v' (acc ++ l) (w1.setCell ⟨rb, 1, none⟩ (.int .i64 (q : Int))) := by
  have hMk := wrote_kept hM hrb hvb hb hB hW
  obtain ⟨v', h1, h2, h3⟩ := hW
  refine ⟨hMk.set q, _, v', h1.later ?_ ?_ ?_⟩
  · exact Below.heap_setCell _ _ _ _ (fun e => by simp at e; omega)
  · intro g hg
    exact Below.heap_setCell _ _ _ _ (fun e => by have := h3 g hg; simp at e; omega)
  · have := h1.lo; simpa using this
theorem encLen (r : Int) (h : okRune r) : (Lib.encodeRune r).length ≤ 4 := by
  unfold okRune at h
  have e : (Lib.encodeRune r).length = (Lib.runeCells r).length := by rw [← Lib.byteCells_encodeRune]; simp [Lib.byteCells]
  rw [e]
  by_cases c0 : r ≤ 127
  · simp [Lib.runeCells, Lib.encodeRuneZ_one (show 0 ≤ r by omega) c0]
  by_cases c1 : r ≤ 2047
  · simp [Lib.runeCells, Lib.encodeRuneZ_two (show 128 ≤ r by omega) c1]
  by_cases c2 : r < 55296
  · simp [Lib.runeCells, Lib.encodeRuneZ_three (Or.inl ⟨show 2048 ≤ r by omega, c2⟩)]
  by_cases c3 : r ≤ 65535
  · simp [Lib.runeCells, Lib.encodeRuneZ_three (Or.inr ⟨show 57343 < r by omega, c3⟩)]
  · simp [Lib.runeCells, Lib.encodeRuneZ_four (r := r) (by omega) (by omega)]
/-- A piece: where it ends, how long it is. -/
theorem piece_in {s : ByteArray} {p q : Nat} {b : ByteArray} (h : pieceX s p = .ok q b) (hp : p ≤ s.size) : p < q ∧ q ≤ s.size ∧ b.size ≤ 4 * (q - p) := by
  unfold pieceX at h
  split at h
  · cases hr : refX s p with
    | none => rw [hr] at h; cases h
    | some r =>
      rw [hr] at h
      obtain ⟨h1, h2, h3⟩ := refX_ok hr hp
      obtain ⟨x, n⟩ := r
      simp only at h h1 h2 h3
      injection h with h4 h5
      subst h4 h5
      have := encLen x h1
      have e : (encB x).size = (Lib.encodeRune x).length := by simp [encB, ByteArray.size]
      omega
  · split at h
    · rename_i hc
      have hlt := rChar_in hc
      have h1 := wd_pos s p hlt
      have h2 := wd_in s p hlt
      injection h with h4 h5
      subst h4 h5
      rw [ByteArray.size_extract]
      omega
    · cases h
theorem valF_end {s : ByteArray} {q : Int} {g p : Nat} {acc : ByteArray} (h : bt s p = q) : valF s q (g + 1) p acc = .ok (p + 1) acc := by
  conv => lhs; unfold valF
  rw [if_pos h]
theorem valF_bad {s : ByteArray} {q : Int} {g p : Nat} {acc : ByteArray} (h : bt s p ≠ q) (h2 : s.size ≤ p ∨ bt s p = 60) : valF s q (g + 1) p acc = .bad 140 p := by
  conv => lhs; unfold valF
  rw [if_neg h, if_pos h2]
theorem valF_go {s : ByteArray} {q : Int} {g p : Nat} {acc : ByteArray} (h : bt s p ≠ q) (h2 : ¬ (s.size ≤ p ∨ bt s p = 60)) : valF s q (g + 1) p acc = match pieceX s p with
    | .bad e a => .bad e a
    | .ok p' b => valF s q g p' (acc ++ b) := by
  conv => lhs; unfold valF
  rw [if_neg h, if_neg h2]
  rfl
/-- What rune comes to at a builder of its own. -/
def OwnEnd (rb : Nat) (s : ByteArray) (cs : Array Value) (w : World) (vb : Nat) (acc : List UInt8) (x : Xr ByteArray) (en : Ending) (w' : World) : Prop :=
  match x with
  | .bad e a => en = Died e a ∧ KeepX w.heap.size rb w w'
  | .ok q b => en = .returned (.tuple #[]) ∧ Moved rb s cs w q w' ∧ ∃ csb v, Bld w.heap.size vb 0 70 csb v (acc ++ b.data.toList) w'
theorem rune_own {rb : Nat} {s : ByteArray} {cs csb : Array Value} {w wx : World} {p vb : Nat} {v : Value} {acc : List UInt8} (hM : Moved rb s cs w p wx) (hrb : rb < w.heap.size) (hvb : w.heap.size ≤ vb) (hb : Bld w.heap.size vb 0 70 csb v acc wx) (hp : p ≤ s.size) (hz : s.size ≤ 4000000000) (hG : Gx wx) (hacc : acc.length ≤ 4 * p) :
    Calls Tryz.prog 52 #[.pointer (some ⟨rb, 0, none⟩), .pointer (some ⟨vb, 0, none⟩)] wx fun en w' => OwnEnd rb s cs w vb acc (pieceX s p) en w' := by
  have hWS : ∀ (b : ByteArray) W, b.size ≤ s.size → Below wx.heap.size wx W → Calls Tryz.prog 58 #[.pointer (some ⟨vb, 0, none⟩), .string b] W fun e w' => (∃ a, e = .returned a) ∧ (Below wx.heap.size wx W ∧ Wrote w.heap.size vb 0 70 csb v acc b.data.toList W w') := fun b W hbz hB =>
    (bWriteString (hb.on hB) b (by omega) (by decide)).mono fun e w' ⟨h1, h2⟩ => ⟨⟨_, h1⟩, hB, h2⟩
  have hWR : ∀ (r : Int) W, okRune r → Below wx.heap.size wx W → Calls Tryz.prog 77 #[.pointer (some ⟨vb, 0, none⟩), .int .i32 r] W fun e w' => (∃ a, e = .returned a) ∧ (Below wx.heap.size wx W ∧ Wrote w.heap.size vb 0 70 csb v acc (Lib.encodeRune r) W w') := fun r W hr hB =>
    (bWriteRune (hb.on hB) r hr (by omega) (by decide)).mono fun e w' ⟨h1, h2⟩ => ⟨h1, hB, h2⟩
  have hRd : ∀ l W W', (Below wx.heap.size wx W ∧ Wrote w.heap.size vb 0 70 csb v acc l W W') → ∃ cs', Rdr rb s p cs' W' := fun l W W' hP => ⟨_, (wrote_kept hM hrb hvb hb hP.1 hP.2).1⟩
  refine (rune_gen (.pointer (some ⟨vb, 0, none⟩)) (fun l W W' => Below wx.heap.size wx W ∧ Wrote w.heap.size vb 0 70 csb v acc l W W') hM.1 hp hz hG hWS hWR hRd).mono ?_
  intro e w' hE
  unfold RuneEnd at hE
  unfold OwnEnd
  cases hpx : pieceX s p with
  | bad ee aa =>
    rw [hpx] at hE
    exact ⟨hE.1, (hM.on hE.2).2⟩
  | ok q b =>
    rw [hpx] at hE
    obtain ⟨he, W, w1, hBW, ⟨hBW', hWr⟩, rfl⟩ := hE
    obtain ⟨hMn, hBn⟩ := wrote_moved hM hrb hvb hb hBW hWr q
    exact ⟨he, hMn, hBn⟩
theorem toA_append (acc : List UInt8) (b : ByteArray) : (⟨acc.toArray⟩ : ByteArray) ++ b = ⟨(acc ++ b.data.toList).toArray⟩ := by
  apply ByteArray.ext
  simp [ByteArray.data_append]
end Go.Proofs.YtnmpbphnfiiafaaGreatDoor
