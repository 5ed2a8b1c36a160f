/-
  Laws and contracts taken over from earlier texts (cut out by a program of this seat's own, slice.py), as far as this seat needs them.
-/
import Derived.Test.YtnmpbphnfiiafaaGreatDoorXmUb
namespace Go.Proofs.YtnmpbphnfiiafaaGreatDoor
section
open Go.RowKit Go.PlainAid
/-- '[]byte(s)': a new row that holds the text's bytes and may be written. -/
theorem conv_bytes {P : Program} (w : World) (src dst e : TypeId) (s : ByteArray) (hs : P.underlying src = some .string) (hd : P.underlying dst = some (.slice e)) (he : P.underlying e = some (.int .u8)) :
    ∃ (cap : Nat) (w1 : World), (convert src dst (.string s)).run P w = .ok (.slice (some ⟨w.heap.size, 0, none⟩) s.size cap) w1 ∧ Below w.heap.size w w1 ∧ w1.heap.size = w.heap.size + 1 ∧
      ∀ j, j < s.size → w1.cell? ⟨w.heap.size, j, none⟩ = some (.int .u8 (bt s j)) ∧ w1.frozen? ⟨w.heap.size, j, none⟩ = false := by
  refine ⟨_, _, Lib.run_convert_string_bytes w src dst e s hs hd he, ⟨rfl, rfl, rfl, by rw [Lib.bytesWorld_size]; omega, fun k hk => Lib.bytesWorld_at_old w e s k hk⟩, Lib.bytesWorld_size w e s, fun j hj => ⟨?_, ?_⟩⟩
  · rw [Lib.bytesWorld_cell w e s j hj, ← get_bt s j hj]
    simp [List.getD, hj]
    rfl
  · have h : s.size ≤ (Lib.bytesCells w e s).size := by simp [Lib.bytesCells]
    simp only [World.frozen?, Lib.bytesWorld_at_new]
    simp; omega

def lowC (c : UInt8) : UInt8 := if 65 ≤ c.toNat ∧ c.toNat ≤ 90 then c + 32 else c

def mapB (f : UInt8 → UInt8) (s : ByteArray) : ByteArray := ⟨s.data.map f⟩

theorem mapB_size (f : UInt8 → UInt8) (s : ByteArray) : (mapB f s).size = s.size := Array.size_map

theorem mapB_get (f : UInt8 → UInt8) (s : ByteArray) (k : Nat) (h : k < s.size) (h' : k < (mapB f s).size) : (mapB f s)[k]'h' = f (s[k]'h) :=
  Array.getElem_map (f := f) (xs := s.data) (i := k) h'

def low (s : ByteArray) : ByteArray := mapB lowC s

theorem low_all : ∀ n : Fin 256, ((lowC (UInt8.ofNat n.val)).toNat : Int) = (if 65 ≤ (n.val : Int) ∧ (n.val : Int) < 91 then bits .xor .u8 (n.val : Int) 32 else (n.val : Int)) := by decide +kernel

/-- What 'turn' makes of a byte. -/
def Turns (fr : Int) (f : UInt8 → UInt8) : Prop := ∀ c : UInt8, ((f c).toNat : Int) = (if fr ≤ (c.toNat : Int) ∧ (c.toNat : Int) < fr + 26 then bits .xor .u8 (c.toNat : Int) 32 else (c.toNat : Int))

theorem turns_low : Turns 65 lowC := fun c => by have := low_all ⟨c.toNat, c.toNat_lt⟩; simpa using this

/-- The row behind k rounds: the first k bytes turned. -/
def TurnI (B : Nat) (f : UInt8 → UInt8) (s : ByteArray) (k : Nat) (w : World) : Prop :=
  ∀ j (h : j < s.size), w.cell? ⟨B, j, none⟩ = some (.int .u8 (if j < k then ((f (s[j]'h)).toNat : Int) else bt s j)) ∧ w.frozen? ⟨B, j, none⟩ = false

theorem turnI_keep {B : Nat} {f : UInt8 → UInt8} {s : ByteArray} {k : Nat} {w : World} (hk : k < s.size) (h : TurnI B f s k w) (he : ((f (s[k]'hk)).toNat : Int) = bt s k) : TurnI B f s (k + 1) w := fun j hj => by
  refine ⟨?_, (h j hj).2⟩
  rw [(h j hj).1]
  by_cases e : j = k
  · subst e
    rw [if_neg (by omega), if_pos (by omega), he]
  · by_cases e2 : j < k
    · rw [if_pos e2, if_pos (by omega)]
    · rw [if_neg e2, if_neg (by omega)]

theorem turnI_set {B : Nat} {f : UInt8 → UInt8} {s : ByteArray} {k : Nat} {w : World} (hk : k < s.size) (h : TurnI B f s k w) (x : Int) (he : ((f (s[k]'hk)).toNat : Int) = x) : TurnI B f s (k + 1) (w.setCell ⟨B, k, none⟩ (.int .u8 x)) := fun j hj => by
  refine ⟨?_, by rw [World.frozen?_setCell]; exact (h j hj).2⟩
  by_cases e : j = k
  · subst e
    rw [World.cell?_setCell_same' _ _ _ (by rw [(h j hj).1]; rfl), if_pos (by omega), he]
  · rw [World.cell?_setCell_other _ _ _ _ (by first | (simp; done) | (simp; omega)), (h j hj).1]
    by_cases e2 : j < k
    · rw [if_pos e2, if_pos (by omega)]
    · rw [if_neg e2, if_neg (by omega)]

set_option maxRecDepth 100000 in
set_option maxHeartbeats 1000000 in
theorem turn_any (fr : Int) (f : UInt8 → UInt8) (hf : Turns fr f) (h0 : 0 ≤ fr) (h1 : fr ≤ 200) (s : ByteArray) (w : World) (hs : s.size ≤ 1000000000000000) :
    Calls Tryz.prog 119 #[.string s, .int .u8 fr] w fun e w' => e = .returned (.string (mapB f s)) ∧ Below w.heap.size w w' := by
  have hb := get_bt s
  obtain ⟨cap, w1, hc, hB1, hz1, hr1⟩ := conv_bytes (P := Tryz.prog) w 9 60 5 s Tryz.underlying9 Tryz.underlying60 Tryz.underlying5
  have HF := Lib.hid hf; clear hf
  have HR := Lib.hid hr1; clear hr1
  have HZ := Lib.hid hz1; clear hz1
  go_enter Tryz.func119, Tryz.ntmps119
  go_wp2
  go_loopw [12] (fun i wr => ∃ (pos : Nat), i = .int .i64 pos ∧ pos ≤ s.size ∧ Below w.heap.size w wr ∧ TurnI w.heap.size f s pos wr) (fun i _ => s.size - (Go.RowKit.intOf i).toNat)
  case atStart => exact ⟨0, rfl, Nat.zero_le _, hB1, fun j hj => by rw [if_neg (by omega)]; exact HR.out j hj⟩
  case round =>
    obtain ⟨pos, rfl, hle, hB, hI⟩ := hrel
    have HI := Lib.hid hI; clear hI
    by_cases hp : pos < s.size
    · have l0 := bt_nonneg s pos; have u0 := bt_le s pos
      obtain ⟨hc0, hf0⟩ := HI.out pos hp
      rw [if_neg (by omega)] at hc0
      have hx := HF.out (s[pos]'hp)
      rw [get_bt s pos hp] at hx
      have HX := Lib.hid hx; clear hx
      by_cases h1 : fr ≤ bt s pos ∧ bt s pos < fr + 26
      · obtain ⟨h1, h2⟩ := h1
        go_wp2
        go_roundw
        case rel => exact ⟨pos + 1, by go_num, by omega, hB.setCell (Nat.le_refl _) _, turnI_set hp HI.out _ (by rw [HX.out, if_pos ⟨h1, h2⟩])⟩
        case measure => simp [Go.RowKit.intOf]; omega
      · by_cases h1' : fr ≤ bt s pos
        all_goals
          go_wp2
          go_roundw
          case rel => exact ⟨pos + 1, by go_num, by omega, hB, turnI_keep hp HI.out (by rw [HX.out, if_neg h1])⟩
          case measure => simp [Go.RowKit.intOf]; omega
    · have hpos : pos = s.size := by omega
      have hby : Lib.Bytes wr w.heap.size 0 (mapB f s) := fun i hi => by
        rw [mapB_size] at hi
        rw [mapB_get f s i hi, Nat.zero_add, (HI.out i hi).1, if_pos (by omega)]
      have hback := Lib.run_convert_whole (P := Tryz.prog) wr 60 5 9 Tryz.underlying60 Tryz.underlying5 Tryz.underlying9 _ _ _ hby cap
      rw [mapB_size] at hback
      clear hpos
      go_wp2
      go_ret
      exact ⟨rfl, hB⟩

set_option maxRecDepth 100000 in
set_option maxHeartbeats 400000 in
theorem lower_any (s : ByteArray) (w : World) (hs : s.size ≤ 1000000000000000) :
    Calls Tryz.prog 99 #[.string s] w fun e w' => e = .returned (.string (low s)) ∧ Below w.heap.size w w' := by
  have c := turn_any 65 lowC turns_low (by decide) (by decide) s w hs
  change Calls _ _ _ _ (fun e w' => e = .returned (.string (low s)) ∧ Below w.heap.size w w') at c
  go_enter Tryz.func99, Tryz.ntmps99
  go_wp2_with (go_at_call 119; refine c.mono ?_; rintro e w' ⟨rfl, hB⟩)
  go_ret
  exact ⟨rfl, hB⟩

end
section
open Go.RowKit Go.PlainAid
theorem bt_sub (s : ByteArray) (a b k : Nat) (h : k < b - a) (hb : b ≤ s.size) : bt (s.extract a b) k = bt s (a + k) := by
  unfold bt
  rw [dif_pos (by simp; omega), dif_pos (by omega)]
  simp [ByteArray.getElem_extract]

theorem size_sub (s : ByteArray) (a b : Nat) (hb : b ≤ s.size) : (s.extract a b).size = b - a := by simp; omega

end
section
open Go.RowKit
/-- A block holds just these cells, none of them frozen. -/
def Blk (w : World) (b : Nat) (cs : Array Value) : Prop := ∃ t, w.heap[b]? = some (.cells cs t (0, 0))

theorem Blk.cell {w : World} {b : Nat} {cs : Array Value} (h : Blk w b cs) (o : Nat) : w.cell? ⟨b, o, none⟩ = cs[o]? := by
  obtain ⟨t, h⟩ := h
  simp [World.cell?, h]

theorem Blk.free {w : World} {b : Nat} {cs : Array Value} (h : Blk w b cs) (o : Nat) : w.frozen? ⟨b, o, none⟩ = false := by
  obtain ⟨t, h⟩ := h
  simp [World.frozen?, h]

theorem Blk.lt {w : World} {b : Nat} {cs : Array Value} (h : Blk w b cs) : b < w.heap.size := by
  obtain ⟨t, h⟩ := h
  exact (Array.getElem?_eq_some_iff.1 h).1

theorem Blk.new (w : World) (cs : Array Value) (t : TypeId) : Blk (w.alloc (.cells cs t)) w.heap.size cs := ⟨t, by show (w.heap.push _)[w.heap.size]? = _; simp⟩

theorem Blk.new' (w : World) (cs : Array Value) (t : TypeId) (b : Nat) (hb : b = w.heap.size) : Blk (w.alloc (.cells cs t)) b cs := by subst hb; exact Blk.new w cs t

theorem Blk.later {B : Nat} {w w' : World} {b : Nat} {cs : Array Value} (h : Blk w b cs) (hB : Below B w w') (hb : b < B) : Blk w' b cs := by
  obtain ⟨t, h⟩ := h
  exact ⟨t, (hB.block b hb).trans h⟩

theorem Blk.on {w w' : World} {b : Nat} {cs : Array Value} (h : Blk w b cs) (hB : Below w.heap.size w w') : Blk w' b cs := h.later hB h.lt

theorem Blk.alloc {w : World} {b : Nat} {cs : Array Value} (h : Blk w b cs) (o : Obj) : Blk (w.alloc o) b cs := h.on ((Below.refl _ _).alloc (Nat.le_refl _) o)

theorem Blk.set {w : World} {b : Nat} {cs : Array Value} (h : Blk w b cs) (i : Nat) (v : Value) : Blk (w.setCell ⟨b, i, none⟩ v) b (cs.setIfInBounds i v) := by
  obtain ⟨t, h⟩ := h
  exact ⟨t, Go.Joins.block_setCell h v⟩

theorem Blk.other {w : World} {b : Nat} {cs : Array Value} (h : Blk w b cs) (c i : Nat) (v : Value) (hb : b ≠ c) : Blk (w.setCell ⟨c, i, none⟩ v) b cs := by
  obtain ⟨t, h⟩ := h
  refine ⟨t, ?_⟩
  rw [← h]
  simp only [World.setCell]
  rw [Array.getElem?_modify, if_neg (fun e => hb e.symm)]

end
section
open Go.RowKit Go.PlainAid
/-- A slice of ints that reads as a row of digits. -/
def Ints (w : World) (v : Value) (l : List Nat) : Prop :=
  (l = [] ∧ ∃ a cap, v = .slice a 0 cap) ∨ ∃ g o cap, v = .slice (some ⟨g, o, none⟩) l.length cap ∧ g < w.heap.size ∧ l.length ≤ cap ∧ cap ≤ maxLen ∧ ∀ j (hj : j < l.length), w.cell? ⟨g, o + j, none⟩ = some (.int .i64 (l[j] : Int))

theorem Ints.later {B : Nat} {w w' : World} {v : Value} {l : List Nat} (h : Ints w v l) (hb : Below B w w') (hB : w.heap.size ≤ B) : Ints w' v l := by
  rcases h with h | ⟨g, o, cap, hv, hg, hc, hm, hcell⟩
  · exact .inl h
  · exact .inr ⟨g, o, cap, hv, Nat.lt_of_lt_of_le hg hb.size, hc, hm, fun j hj => (hb.cell (p := ⟨g, o + j, none⟩) (by show g < B; omega)).trans (hcell j hj)⟩

theorem Ints.form {w : World} {v : Value} {l : List Nat} (h : Ints w v l) (n : Nat) (hn : l.length = n) : ∃ a cap, v = .slice a n cap := by
  subst hn
  rcases h with ⟨rfl, a, cap, rfl⟩ | ⟨g, o, cap, rfl, _⟩
  · exact ⟨_, _, rfl⟩
  · exact ⟨_, _, rfl⟩

end
section
open Go.RowKit Go.PlainAid
/-- How an element lies in memory: its type, its cells, what is known of the type. -/
structure ETy (α : Type) where
  T : TypeId
  ST : TypeId
  sz : Nat
  bs : Nat
  z : Value
  enc : α → List Value
  hsz : 0 < sz
  hbs : bs ≤ 1000
  hlen : ∀ x, (enc x).length = sz
  hz : z.cells.size = sz
  info : (Tryz.prog.info? T).map (fun i => (i.zero, i.size, i.bytes)) = some (some z, sz, bs)
  und : Tryz.prog.underlying ST = some (.slice T)
  hone : ∀ x, ∀ u ∈ enc x, u.oneCell' = true

def ETy.cs {α : Type} (E : ETy α) (l : List α) : List Value := l.flatMap E.enc

theorem ETy.cs_len {α : Type} (E : ETy α) : ∀ l : List α, (E.cs l).length = l.length * E.sz
  | [] => by simp [ETy.cs]
  | x :: l => by
    have ih := E.cs_len l
    unfold ETy.cs at ih ⊢
    rw [List.flatMap_cons, List.length_append, ih, E.hlen, List.length_cons, Nat.succ_mul, Nat.add_comm]

theorem ETy.cs_at {α : Type} (E : ETy α) : ∀ (l : List α) (j : Nat) (hj : j < l.length) (i : Nat), i < E.sz → (E.cs l)[j * E.sz + i]? = (E.enc l[j])[i]?
  | [], j, hj, _, _ => absurd hj (by simp)
  | x :: l, 0, _, i, hi => by
    unfold ETy.cs
    rw [List.flatMap_cons, Nat.zero_mul, Nat.zero_add, List.getElem?_append_left (by rw [E.hlen]; exact hi)]
    rfl
  | x :: l, j + 1, hj, i, hi => by
    have ih := E.cs_at l j (by simp at hj; omega) i hi
    unfold ETy.cs at ih ⊢
    rw [List.flatMap_cons, List.getElem?_append_right (by rw [E.hlen, Nat.succ_mul]; omega), E.hlen, show (j + 1) * E.sz + i - E.sz = j * E.sz + i by rw [Nat.succ_mul]; omega, ih]
    rfl

/-- A slice of elements that a call has made (its block lies at base or behind). -/
def GRow {α : Type} (E : ETy α) (base : Nat) (w : World) (v : Value) (l : List α) : Prop := w.ownsRow base E.T E.sz v l.length (E.cs l)

/-- A slice that reads as elements. -/
def GAt {α : Type} (E : ETy α) (w : World) (v : Value) (l : List α) : Prop :=
  ∃ a cap, v = .slice a l.length cap ∧ ∀ j (hj : j < l.length), ∃ g off, a = some ⟨g, off, none⟩ ∧ g < w.heap.size ∧ ∀ i, i < E.sz → w.cell? ⟨g, off + (j * E.sz + i), none⟩ = (E.enc l[j])[i]?

theorem GRow.nil {α : Type} (E : ETy α) (base : Nat) (w : World) : GRow E base w (.slice none 0 0) [] := World.ownsRow_nil _ _ _ _

theorem GRow.read {α : Type} {E : ETy α} {base : Nat} {w : World} {v : Value} {l : List α} (h : GRow E base w v l) :
    (l = [] ∧ v = .slice none 0 0) ∨ ∃ g cap, v = .slice (some ⟨g, 0, none⟩) l.length cap ∧ base ≤ g ∧ g < w.heap.size ∧ l.length ≤ cap ∧ cap ≤ maxLen ∧ ∀ j (hj : j < l.length) i, i < E.sz → w.cell? ⟨g, j * E.sz + i, none⟩ = (E.enc l[j])[i]? := by
  obtain ⟨h1, h2⟩ := id h
  rcases h2 with ⟨hv, hn⟩ | ⟨g, cap, cur, hv, hg, hh, hc, hm, hs, ht⟩
  · exact .inl ⟨List.eq_nil_of_length_eq_zero hn, hv⟩
  · refine .inr ⟨g, cap, hv, hg, (Array.getElem?_eq_some_iff.1 hh).1, hc, hm, fun j hj i hi => ?_⟩
    have h' : w.ownsRow base E.T E.sz (.slice (some ⟨g, 0, none⟩) l.length cap) l.length (E.cs l) := by rw [← hv]; exact h
    rw [World.ownsRow.cellAt h' (j * E.sz + i) (by calc j * E.sz + i < j * E.sz + E.sz := by omega
      _ = (j + 1) * E.sz := by rw [Nat.succ_mul]
      _ ≤ l.length * E.sz := Nat.mul_le_mul_right _ hj), E.cs_at l j hj i hi]

theorem GRow.at' {α : Type} {E : ETy α} {base : Nat} {w : World} {v : Value} {l : List α} (h : GRow E base w v l) : GAt E w v l := by
  rcases h.read with ⟨rfl, rfl⟩ | ⟨g, cap, rfl, _, h1, _, _, h2⟩
  · exact ⟨_, _, rfl, fun j hj => absurd hj (by simp)⟩
  · exact ⟨_, _, rfl, fun j hj => ⟨g, 0, rfl, h1, fun i hi => by rw [Nat.zero_add]; exact h2 j hj i hi⟩⟩

theorem GRow.later {α : Type} {E : ETy α} {base : Nat} {w w' : World} {v : Value} {l : List α} (h : GRow E base w v l) (hb : ∀ g, v.ownBlock = some g → w'.heap[g]? = w.heap[g]?) : GRow E base w' v l := by
  obtain ⟨h1, h2⟩ := h
  refine ⟨h1, ?_⟩
  rcases h2 with h2 | ⟨g, cap, cur, hv, hg, hh, r⟩
  · exact .inl h2
  · exact .inr ⟨g, cap, cur, hv, hg, (hb g (by rw [hv]; rfl)).trans hh, r⟩

theorem GRow.lt {α : Type} {E : ETy α} {base : Nat} {w : World} {v : Value} {l : List α} (h : GRow E base w v l) : ∀ g, v.ownBlock = some g → g < w.heap.size := by
  intro g hg
  rcases h.2 with ⟨rfl, _⟩ | ⟨g', cap, cur, rfl, _, hh, _⟩
  · simp [Value.ownBlock] at hg
  · simp [Value.ownBlock] at hg
    subst hg
    exact (Array.getElem?_eq_some_iff.1 hh).1

theorem GRow.kind {α : Type} {E : ETy α} {base : Nat} {w : World} {v : Value} {l : List α} (h : GRow E base w v l) : ∀ g, v.ownBlock = some g → ∃ c, w.heap[g]? = some (.cells c E.T (0, 0)) := by
  intro g hg
  rcases h.2 with ⟨rfl, _⟩ | ⟨g', cap, cur, rfl, _, hh, _⟩
  · simp [Value.ownBlock] at hg
  · simp [Value.ownBlock] at hg
    subst hg
    exact ⟨cur, hh⟩

theorem GRow.on {α : Type} {E : ETy α} {base : Nat} {w w' : World} {v : Value} {l : List α} (h : GRow E base w v l) (hb : Below w.heap.size w w') : GRow E base w' v l :=
  h.later fun g hg => hb.block g (h.lt g hg)

theorem GRow.snoc {α : Type} {E : ETy α} {base : Nat} {w : World} {v : Value} {l : List α} {x : α} (h : w.ownsRow base E.T E.sz v (l.length + 1) (E.cs l ++ E.enc x)) : GRow E base w v (l ++ [x]) := by
  unfold GRow
  have e : E.cs (l ++ [x]) = E.cs l ++ E.enc x := by unfold ETy.cs; simp
  rw [e, List.length_append]
  exact h

theorem GRow.own {α : Type} {E : ETy α} {base : Nat} {w : World} {v : Value} {l : List α} (h : GRow E base w v l) : ∀ k, v.ownBlock = some k → base ≤ k := fun k hk => (World.ownsRow.lt h k hk).1

theorem GRow.form {α : Type} {E : ETy α} {base : Nat} {w : World} {v : Value} {l : List α} (h : GRow E base w v l) : ∃ a cap, v = .slice a l.length cap := by
  rcases h.read with ⟨rfl, rfl⟩ | ⟨g, cap, rfl, _⟩
  · exact ⟨_, _, rfl⟩
  · exact ⟨_, _, rfl⟩

theorem GRow.frz {α : Type} {E : ETy α} {base : Nat} {w : World} {g n cap : Nat} {l : List α} (h : GRow E base w (.slice (some ⟨g, 0, none⟩) n cap) l) (j : Nat) : w.frozen? ⟨g, j, none⟩ = false := by
  rcases h.2 with ⟨hv, _⟩ | ⟨g', cap', cur, hv, _, hh, _⟩
  · cases hv
  · have e1 : g = g' := by injection hv with e; injection e with e; injection e
    subst e1
    simp [World.frozen?, hh]

theorem GRow.mono {α : Type} {E : ETy α} {base base' : Nat} {w : World} {v : Value} {l : List α} (h : GRow E base w v l) (hb : base' ≤ base) : GRow E base' w v l := by
  obtain ⟨h1, h2⟩ := h
  refine ⟨h1, ?_⟩
  rcases h2 with h2 | ⟨g, cap, cur, hv, hg, r⟩
  · exact .inl h2
  · exact .inr ⟨g, cap, cur, hv, Nat.le_trans hb hg, r⟩

theorem GAt.later {α : Type} {E : ETy α} {w w' : World} {v : Value} {l : List α} (h : GAt E w v l) (hs : w.heap.size ≤ w'.heap.size) (hb : ∀ g, v.ownBlock = some g → w'.heap[g]? = w.heap[g]?) : GAt E w' v l := by
  obtain ⟨a, cap, rfl, h⟩ := h
  refine ⟨a, cap, rfl, fun j hj => ?_⟩
  obtain ⟨g, off, rfl, hg, hc⟩ := h j hj
  refine ⟨g, off, rfl, by omega, fun i hi => ?_⟩
  rw [← hc i hi]
  simp only [World.cell?, hb g rfl]

theorem GAt.on {α : Type} {E : ETy α} {w w' : World} {v : Value} {l : List α} (h : GAt E w v l) (hb : Below w.heap.size w w') : GAt E w' v l := by
  obtain ⟨a, cap, rfl, h⟩ := h
  refine ⟨a, cap, rfl, fun j hj => ?_⟩
  obtain ⟨g, off, rfl, hg, hc⟩ := h j hj
  refine ⟨g, off, rfl, by have := hb.size; omega, fun i hi => ?_⟩
  rw [← hc i hi]
  simp only [World.cell?, hb.block g hg]

theorem GAt.form {α : Type} {E : ETy α} {w : World} {v : Value} {l : List α} (h : GAt E w v l) : ∃ a cap, v = .slice a l.length cap := by
  obtain ⟨a, cap, rfl, _⟩ := h
  exact ⟨_, _, rfl⟩

/-- One element put behind, in a block of its own that was laid last. -/
theorem wpList_snoc_g {α : Type} (E : ETy α) {ops : Array Oper} {rest : List Oper} {o : Oper} {a : Act} {Q : Exit → Act → World → Prop} {w : World} (x : α) (hgd : o.guard = none) (s y : Operand)
    (ho : o.op = .call { callee := .builtin .append, args := #[s, y], argTypes := #[E.ST, E.ST] })
    (base : Nat) (v : Value) (l : List α) (hs : a.eval s = v) (hrow : GRow E base w v l) (c : Nat) (g : Nat) (hx : a.eval y = .slice (some ⟨g, 0, none⟩) 1 c) (hg : Blk w g (E.enc x).toArray) (hlen : l.length ≤ 100000000)
    (hz : base ≤ w.heap.size)
    (h : ∀ v' w', GRow E base w' v' (l ++ [x]) → w.grownBy w' v.ownBlock → wpList Tryz.prog ops Q rest (a.put o.dst v') w') : wpList Tryz.prog ops Q (o :: rest) a w := by
  obtain ⟨i0, hi, hz0, hz1, hz2⟩ := info_parts E.info
  refine wpList_append_own _ hgd s y E.ST ho base E.T i0 E.z E.sz E.bs E.und hi hz0 hz1 hz2 E.hz E.hsz v l.length _ hs hrow ⟨g, 0, none⟩ 1 c (E.enc x) hx (by rw [E.hlen, Nat.one_mul]) (fun j u hu => ?_) (E.hone x) (by unfold maxLen; omega) ?_ hz ?_
  · rw [Lib.add_plain, hg.cell, Nat.zero_add]
    simpa using hu
  · calc (l.length + 1) * E.bs ≤ (l.length + 1) * 1000 := Nat.mul_le_mul_left _ E.hbs
      _ ≤ 140737488355328 := by omega
  intro v' w' hown' hgrow _
  exact h v' w' (GRow.snoc hown') hgrow

/-- .. in a region that draws its order. -/
theorem step_snoc_g {α : Type} (E : ETy α) {ops : Array Oper} {o : Oper} {a : Act} {K : Act → World → Prop} {Q : Exit → Act → World → Prop} {EE : Prop} {w : World} (x : α) (hgd : o.guard = none) (s y : Operand)
    (ho : o.op = .call { callee := .builtin .append, args := #[s, y], argTypes := #[E.ST, E.ST] })
    (base : Nat) (v : Value) (l : List α) (hs : a.eval s = v) (hrow : GRow E base w v l) (c : Nat) (g : Nat) (hx : a.eval y = .slice (some ⟨g, 0, none⟩) 1 c) (hg : Blk w g (E.enc x).toArray) (hlen : l.length ≤ 100000000)
    (hz : base ≤ w.heap.size)
    (h : ∀ v' w', GRow E base w' v' (l ++ [x]) → w.grownBy w' v.ownBlock → K (a.put o.dst v') w') : if Region.wanted o (yielded ops a.tmps) = true then Oper.wp Tryz.prog o a w K Q else EE := by
  have hw : Region.wanted o (yielded ops a.tmps) = true := by simp [Region.wanted, hgd]
  rw [if_pos hw]
  obtain ⟨i0, hi, hz0, hz1, hz2⟩ := info_parts E.info
  refine wp_append_own _ s y E.ST ho base E.T i0 E.z E.sz E.bs E.und hi hz0 hz1 hz2 E.hz E.hsz v l.length _ hs hrow ⟨g, 0, none⟩ 1 c (E.enc x) hx (by rw [E.hlen, Nat.one_mul]) (fun j u hu => ?_) (E.hone x) (by unfold maxLen; omega) ?_ hz ?_
  · rw [Lib.add_plain, hg.cell, Nat.zero_add]
    simpa using hu
  · calc (l.length + 1) * E.bs ≤ (l.length + 1) * 1000 := Nat.mul_le_mul_left _ E.hbs
      _ ≤ 140737488355328 := by omega
  intro v' w' hown' hgrow _
  exact h v' w' (GRow.snoc hown') hgrow

/-- What growing a row keeps. -/
theorem grown_below {B : Nat} {w w' : World} {v : Value} (hg : w.grownBy w' v.ownBlock) (hB : B ≤ w.heap.size) (hv : ∀ k, v.ownBlock = some k → B ≤ k) : Below B w w' := (Below.refl B w).grown hg hB hv

/-- An element turned in place, where each takes one cell. -/
theorem GRow.set1 {α : Type} {E : ETy α} (h1 : E.sz = 1) {base : Nat} {w : World} {v : Value} {l : List α} (h : GRow E base w v l) (j : Nat) (hj : j < l.length) (x : α) (u : Value) (hu : E.enc x = [u]) :
    ∃ g cap, v = .slice (some ⟨g, 0, none⟩) l.length cap ∧ GRow E base (w.setCell ⟨g, j, none⟩ u) v (l.set j x) := by
  obtain ⟨h0, h2⟩ := h
  rcases h2 with ⟨_, hn⟩ | ⟨g, cap, cur, hv, hg, hh, hc, hm, hs, ht⟩
  · omega
  refine ⟨g, cap, hv, by rw [E.cs_len], .inr ⟨g, cap, cur.setIfInBounds j u, by rw [List.length_set]; exact hv, hg, Go.Joins.block_setCell hh _, by rw [List.length_set]; exact hc, hm, by rw [Array.size_setIfInBounds]; exact hs, ?_⟩⟩
  have hset : ∀ (l : List α) (j : Nat), E.cs (l.set j x) = (E.cs l).set j u := by
    intro l
    induction l with
    | nil => intro j; rfl
    | cons y l ih =>
      intro j
      have hy := E.hlen y
      rw [h1] at hy
      obtain ⟨c, hc⟩ := List.length_eq_one_iff.1 hy
      cases j with
      | zero =>
        show E.enc x ++ E.cs l = (E.enc y ++ E.cs l).set 0 u
        rw [hu, hc]
        rfl
      | succ j =>
        show E.enc y ++ E.cs (l.set j x) = (E.enc y ++ E.cs l).set (j + 1) u
        rw [ih j, hc]
        rfl
  rw [List.length_set, Array.toList_setIfInBounds, List.take_set, ht, hset]

end
end Go.Proofs.YtnmpbphnfiiafaaGreatDoor
