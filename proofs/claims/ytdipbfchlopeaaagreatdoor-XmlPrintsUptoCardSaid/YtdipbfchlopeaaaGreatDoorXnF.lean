/-
  A part of XML, plain: where a value, an attribute, a begin and an end lead to.
  The reader as a whole: what it has told, which elements are open, its text.
  The reader of files: an attribute.
  The reader of files: the begin of an element.
-/
import Derived.Test.YtdipbfchlopeaaaGreatDoorXnD
import Derived.WalkSmall
import Derived.Test.YtdipbfchlopeaaaGreatDoorXnE
import Derived.ScopeJumps
namespace Go.Proofs.YtdipbfchlopeaaaGreatDoor
section
open Go.RowKit Go.PlainAid

theorem valF_in {s : ByteArray} {q : Int} (hq : q ≠ 0) : ∀ {f p r : Nat} {acc v : ByteArray}, valF s q f p acc = .ok r v → p ≤ s.size → p < r ∧ r ≤ s.size
  | 0, p, r, acc, v, h, _ => by simp [valF] at h
  | f + 1, p, r, acc, v, h, hp => by
    unfold valF at h
    split at h
    · rename_i hb
      injection h with h1 h2
      have hlt : p < s.size := by
        by_cases hp : p < s.size
        · exact hp
        · rw [bt_end s (by omega)] at hb; omega
      omega
    · split at h
      · cases h
      · cases hx : pieceX s p with
        | bad e a => rw [hx] at h; cases h
        | ok p' b =>
          rw [hx] at h
          obtain ⟨h1, h2, _⟩ := piece_in hx hp
          have := valF_in hq h h2
          omega
theorem valX_in {s : ByteArray} {p r : Nat} {v : ByteArray} (h : valX s p = .ok r v) (hp : p ≤ s.size) : p < r ∧ r ≤ s.size ∧ v.size ≤ 4096 := by
  unfold valX at h
  split at h
  · rename_i hb
    have hlt : p < s.size := by
      by_cases hp : p < s.size
      · exact hp
      · rw [bt_end s (by omega)] at hb; omega
    cases hx : valF s (bt s p) (s.size + 1 - p) (p + 1) ⟨#[]⟩ with
    | bad e a => rw [hx] at h; cases h
    | ok p' w =>
      rw [hx] at h
      simp only at h
      split at h
      · cases h
      · injection h with h1 h2
        have := valF_in (by omega) hx hlt
        subst h1 h2
        omega
  · cases h
theorem start_byte {b : Int} (h : bStart b = true) : bByte b = true := by rw [bByte_eq, h]; rfl
theorem nameX_in {s : ByteArray} {p q : Nat} {nm : ByteArray} (h : nameX s p = .ok q nm) (_ : p ≤ s.size) : p < q ∧ q ≤ s.size := by
  unfold nameX at h
  split at h
  · rename_i hs
    split at h
    · cases h
    · injection h with h1 h2
      have hi := bStart_in hs
      have h3 := nmF_step (start_byte hs)
      have h4 := nmF_ge s (s.size - (p + 1)) (p + 1)
      have h5 : nmE s p = nmF s (s.size - p) p := rfl
      omega
  · cases h
theorem attrX_in {s : ByteArray} {p q : Nat} {l : List At2} {a : At2} (h : attrX s p l = .ok q a) (hp : p ≤ s.size) : p < q ∧ q ≤ s.size ∧ l.length ≠ 16 := by
  unfold attrX at h
  cases hn : nameX s p with
  | bad e a => rw [hn] at h; cases h
  | ok q1 nm =>
    rw [hn] at h
    obtain ⟨h1, h2⟩ := nameX_in hn hp
    simp only at h
    split at h
    · cases h
    · split at h
      · cases h
      · split at h
        · rename_i h61
          have hlt : q1 < s.size := by
            by_cases hp : q1 < s.size
            · exact hp
            · rw [bt_end s (by omega)] at h61; omega
          cases hv : valX s (q1 + 1) with
          | bad e a => rw [hv] at h; cases h
          | ok q2 v =>
            rw [hv] at h
            have := valX_in hv hlt
            injection h with h3 h4
            omega
        · cases h
theorem begF_in {s : ByteArray} : ∀ {f p r : Nat} {l : List At2} {x : Bool × List At2}, begF s f p l = .ok r x → p ≤ s.size → p < r ∧ r ≤ s.size
  | 0, p, r, l, x, h, _ => by simp [begF] at h
  | f + 1, p, r, l, x, h, hp => by
    have hb1 := blk_ge s p
    have hb2 := blk_le s p hp
    unfold begF at h
    split at h
    · rename_i hb
      have hlt : blk s p < s.size := by
        by_cases hp : blk s p < s.size
        · exact hp
        · rw [bt_end s (by omega)] at hb; omega
      injection h with h1 h2
      omega
    · split at h
      · split at h
        · rename_i hb
          have hlt : blk s p + 1 < s.size := by
            by_cases hp : blk s p + 1 < s.size
            · exact hp
            · rw [bt_end s (by omega)] at hb; omega
          injection h with h1 h2
          omega
        · cases h
      · split at h
        · cases h
        · cases ha : attrX s (blk s p) l with
          | bad e a => rw [ha] at h; cases h
          | ok q a =>
            rw [ha] at h
            obtain ⟨h1, h2, _⟩ := attrX_in ha hb2
            have := begF_in h h2
            omega
theorem begX_in {s : ByteArray} {p n r : Nat} {x : ByteArray × Bool × List At2} (h : begX s p n = .ok r x) (hp : p < s.size) : p + 3 ≤ r ∧ r ≤ s.size := by
  unfold begX at h
  cases hn : nameX s (p + 1) with
  | bad e a => rw [hn] at h; cases h
  | ok q nm =>
    rw [hn] at h
    obtain ⟨h1, h2⟩ := nameX_in hn hp
    simp only at h
    split at h
    · cases h
    · cases hb : begF s (s.size + 1 - q) q [] with
      | bad e a => rw [hb] at h; cases h
      | ok q' x' =>
        rw [hb] at h
        have := begF_in hb h2
        obtain ⟨sh, l⟩ := x'
        injection h with h3 h4
        omega
theorem endX_in {s : ByteArray} {p r : Nat} {top x : ByteArray} (h : endX s p top = .ok r x) (hp : p + 2 ≤ s.size) : p + 4 ≤ r ∧ r ≤ s.size := by
  unfold endX at h
  cases hn : nameX s (p + 2) with
  | bad e a => rw [hn] at h; cases h
  | ok q nm =>
    rw [hn] at h
    obtain ⟨h1, h2⟩ := nameX_in hn hp
    have hb1 := blk_ge s q
    simp only at h
    split at h
    · split at h
      · rename_i hb
        have hlt : blk s q < s.size := by
          by_cases hp : blk s q < s.size
          · exact hp
          · rw [bt_end s (by omega)] at hb; omega
        injection h with h3 h4
        omega
      · cases h
    · cases h
end

section
open Go.RowKit Go.PlainAid

/-- Texts in memory. -/
def StrE : ETy ByteArray where
  T := 9
  ST := 38
  sz := 1
  bs := 16
  z := .string ⟨#[]⟩
  enc := fun b => [.string b]
  hsz := by decide
  hbs := by decide
  hlen := fun _ => rfl
  hz := rfl
  info := by kernel_rfl
  und := Tryz.underlying38
  hone := fun _ => by simp [Value.oneCell']
/-- Attributes in memory. -/
def AtE : ETy At2 where
  T := 40
  ST := 25
  sz := 2
  bs := 32
  z := .agg #[.string ⟨#[]⟩, .string ⟨#[]⟩]
  enc := fun a => [.string a.1, .string a.2]
  hsz := by decide
  hbs := by decide
  hlen := fun _ => rfl
  hz := rfl
  info := by kernel_rfl
  und := Tryz.underlying25
  hone := fun _ => by simp [Value.oneCell']
/-- A token as it lies in memory: its attributes are a slice. -/
structure TkM where
  kind : Int
  name : ByteArray
  aa : Option Addr
  an : Nat
  ac : Nat
  text : ByteArray
  at_ : Nat
def TkE : ETy TkM where
  T := 27
  ST := 22
  sz := 5
  bs := 72
  z := .agg #[.int .i64 0, .string ⟨#[]⟩, .slice none 0 0, .string ⟨#[]⟩, .int .i64 0]
  enc := fun m => [.int .i64 m.kind, .string m.name, .slice m.aa m.an m.ac, .string m.text, .int .i64 (m.at_ : Int)]
  hsz := by decide
  hbs := by decide
  hlen := fun _ => rfl
  hz := rfl
  info := by kernel_rfl
  und := Tryz.underlying22
  hone := fun _ => by simp [Value.oneCell']
/-- What lies in memory is this token. -/
structure TkOk (lo : Nat) (w : World) (m : TkM) (t : Tk) : Prop where
  kind : m.kind = t.kind
  name : m.name = t.name
  text : m.text = t.text
  at_ : m.at_ = t.at_
  attrs : GRow AtE lo w (.slice m.aa m.an m.ac) t.attrs
/-- A row of tokens of the reader's own. -/
def OutAt (lo : Nat) (w : World) (v : Value) (out : List Tk) : Prop :=
  ∃ ms : List TkM, GRow TkE lo w v ms ∧ ms.length = out.length ∧ ∀ j (h : j < ms.length) (h' : j < out.length), TkOk lo w ms[j] out[j]
theorem TkOk.later {lo : Nat} {w w' : World} {m : TkM} {t : Tk} (h : TkOk lo w m t) (hb : ∀ g c, lo ≤ g → w.heap[g]? = some (.cells c 40 (0, 0)) → w'.heap[g]? = w.heap[g]?) : TkOk lo w' m t :=
  ⟨h.kind, h.name, h.text, h.at_, h.attrs.later fun g hg => by
    obtain ⟨c, hc⟩ := h.attrs.kind g hg
    exact hb g c (h.attrs.own g hg) hc⟩
theorem OutAt.later {lo : Nat} {w w' : World} {v : Value} {out : List Tk} (h : OutAt lo w v out) (hv : ∀ g, v.ownBlock = some g → w'.heap[g]? = w.heap[g]?) (hb : ∀ g c, lo ≤ g → w.heap[g]? = some (.cells c 40 (0, 0)) → w'.heap[g]? = w.heap[g]?) : OutAt lo w' v out := by
  obtain ⟨ms, h1, h2, h3⟩ := h
  exact ⟨ms, h1.later hv, h2, fun j hj hj' => (h3 j hj hj').later hb⟩
theorem OutAt.own {lo : Nat} {w : World} {v : Value} {out : List Tk} (h : OutAt lo w v out) : ∀ g, v.ownBlock = some g → lo ≤ g ∧ ∃ c, w.heap[g]? = some (.cells c 27 (0, 0)) := by
  obtain ⟨ms, h1, _⟩ := h
  exact fun g hg => ⟨h1.own g hg, h1.kind g hg⟩
/-- The reader as a whole. -/
structure RdS (lo rb : Nat) (s : ByteArray) (at_ : Nat) (ov pv bp tv : Value) (fr : Int) (out : List Tk) (pile : List ByteArray) (text : List UInt8) (w : World) : Prop where
  bld : Bld lo rb 4 97 #[.string s, .int .i64 (at_ : Int), ov, pv, bp, tv, .int .i64 fr] tv text w
  out : OutAt lo w ov out
  pile : GRow StrE lo w pv pile
  rb : rb < lo
section
variable {lo rb pg n pc : Nat} {s : ByteArray} {at_ : Nat} {ov pv bp tv : Value} {fr : Int} {out : List Tk} {pile : List ByteArray} {text : List UInt8} {w : World}
theorem RdS.blk (h : RdS lo rb s at_ ov pv bp tv fr out pile text w) : BlkR w rb #[.string s, .int .i64 (at_ : Int), ov, pv, bp, tv, .int .i64 fr] := h.bld.blk
theorem RdS.rdr (h : RdS lo rb s at_ ov pv bp tv fr out pile text w) : Rdr rb s at_ #[.string s, .int .i64 (at_ : Int), ov, pv, bp, tv, .int .i64 fr] w := ⟨h.blk, rfl, rfl⟩
/-- Some cells of the reader's block are turned, else all stays. -/
theorem RdS.later (h : RdS lo rb s at_ ov pv bp tv fr out pile text w) {w' : World} {q : Nat} {fr' : Int} (hr : w'.heap[rb]? = some (.cells #[.string s, .int .i64 (q : Int), ov, pv, bp, tv, .int .i64 fr'] 97 (0, 0)))
    (hb : ∀ k, k < w.heap.size → k ≠ rb → w'.heap[k]? = w.heap[k]?) (hz : w.heap.size ≤ w'.heap.size) : RdS lo rb s q ov pv bp tv fr' out pile text w' := by
  have hrb := h.rb
  have hown := h.out.own
  refine ⟨⟨hr, h.bld.p, rfl, ownsRow_later h.bld.row (fun g hg => hb g (h.bld.own_lt hg).2 (fun e => by have := (h.bld.own_lt hg).1; omega)), h.bld.ne, h.bld.lies, Nat.le_trans h.bld.lo hz⟩, h.out.later (fun g hg => ?_) (fun g c hg hc => hb g (lt_some hc) (by omega)), h.pile.later (fun g hg => hb g (h.pile.lt g hg) (by have := h.pile.own g hg; omega)), hrb⟩
  obtain ⟨h1, c, h2⟩ := hown g hg
  exact hb g (lt_some h2) (by omega)
theorem RdS.moved (h : RdS lo rb s at_ ov pv bp tv fr out pile text w) {w' : World} {q : Nat} (hM : Moved rb s #[.string s, .int .i64 (at_ : Int), ov, pv, bp, tv, .int .i64 fr] w q w') : RdS lo rb s q ov pv bp tv fr out pile text w' :=
  h.later hM.1.blk hM.2.block hM.2.size
theorem RdS.on (h : RdS lo rb s at_ ov pv bp tv fr out pile text w) {w' : World} (hB : Below w.heap.size w w') : RdS lo rb s at_ ov pv bp tv fr out pile text w' :=
  h.later ((hB.block rb h.blk.lt').trans h.blk) (fun k hk _ => hB.block k hk) hB.size
theorem RdS.set1 (h : RdS lo rb s at_ ov pv bp tv fr out pile text w) (q : Nat) : RdS lo rb s q ov pv bp tv fr out pile text (w.setCell ⟨rb, 1, none⟩ (.int .i64 (q : Int))) :=
  h.later (h.blk.set 1 _) (fun k _ hx => Below.heap_setCell _ _ _ _ hx) (by simp [World.setCell])
theorem RdS.set6 (h : RdS lo rb s at_ ov pv bp tv fr out pile text w) (q : Int) : RdS lo rb s at_ ov pv bp tv q out pile text (w.setCell ⟨rb, 6, none⟩ (.int .i64 q)) :=
  h.later (h.blk.set 6 _) (fun k _ hx => Below.heap_setCell _ _ _ _ hx) (by simp [World.setCell])
theorem RdS.keep (h : RdS lo rb s at_ ov pv bp tv fr out pile text w) {w' : World} {q : Nat} (hM : Moved rb s #[.string s, .int .i64 (at_ : Int), ov, pv, bp, tv, .int .i64 fr] w q w') : KeepX lo rb w w' := hM.2.mono h.bld.lo
theorem kinds_ne {k : Nat} {c c' : Array Value} {T T' : TypeId} (h : w.heap[k]? = some (.cells c T (0, 0))) (h' : w.heap[k]? = some (.cells c' T' (0, 0))) (hT : T ≠ T') : False := by
  rw [h] at h'
  injection h' with h'
  injection h' with _ h'
  exact hT h'
theorem Bld.kind {lo b o : Nat} {T : TypeId} {cs : Array Value} {v : Value} {bs : List UInt8} {w : World} (h : Bld lo b o T cs v bs w) {g : Nat} (hg : v.ownBlock = some g) : ∃ c, w.heap[g]? = some (.cells c 5 (0, 0)) := by
  rcases h.row.2 with ⟨rfl, _⟩ | ⟨g', cap, cur, rfl, _, hh, _⟩
  · simp [Value.ownBlock] at hg
  · simp [Value.ownBlock] at hg
    subst hg
    exact ⟨cur, hh⟩
/-- Tokens are told. -/
theorem RdS.told (h : RdS lo rb s at_ ov pv bp tv fr out pile text w) {ms xs : List TkM} {ts : List Tk} (h2 : ms.length = out.length) (h3 : ∀ j (h : j < ms.length) (h' : j < out.length), TkOk lo w ms[j] out[j]) (h4 : xs.length = ts.length) (h5 : ∀ j (h : j < xs.length) (h' : j < ts.length), TkOk lo w xs[j] ts[j]) {o : Obj} {v' : Value} {w6 : World} (hrow : GRow TkE lo w6 v' (ms ++ xs)) (hg : (w.alloc o).grownBy w6 ov.ownBlock) :
    (∀ k, k < w.heap.size → ov.ownBlock ≠ some k → w6.heap[k]? = w.heap[k]?) ∧ RdS lo rb s at_ v' pv bp tv fr (out ++ ts) pile text (w6.setCell ⟨rb, 2, none⟩ v') ∧ KeepX lo rb w (w6.setCell ⟨rb, 2, none⟩ v') := by
  have hrb := h.rb
  have hown := h.out.own
  have hz0 : w.heap.size ≤ (w.alloc o).heap.size := by simp
  have hz : w.heap.size ≤ w6.heap.size := Nat.le_trans hz0 hg.size
  have key : ∀ k, k < w.heap.size → ov.ownBlock ≠ some k → w6.heap[k]? = w.heap[k]? := fun k hk hn =>
    (hg.block k (by simp; omega) (fun e => hn e.symm)).trans (Lib.alloc_old w _ k hk)
  have hne : ov.ownBlock ≠ some rb := fun e => by have := (hown rb e).1; omega
  have hb6 := (key rb h.blk.lt' hne).trans h.blk
  have hset : ∀ k, k ≠ rb → (w6.setCell ⟨rb, 2, none⟩ v').heap[k]? = w6.heap[k]? := fun k hk => Below.heap_setCell _ _ _ _ hk
  have hkey : ∀ k, k < w.heap.size → k ≠ rb → ov.ownBlock ≠ some k → (w6.setCell ⟨rb, 2, none⟩ v').heap[k]? = w.heap[k]? := fun k hk hx hn => (hset k hx).trans (key k hk hn)
  have hzs : (w6.setCell ⟨rb, 2, none⟩ v').heap.size = w6.heap.size := by simp [World.setCell]
  have hat : ∀ g c, lo ≤ g → w.heap[g]? = some (.cells c 40 (0, 0)) → (w6.setCell ⟨rb, 2, none⟩ v').heap[g]? = w.heap[g]? := fun g c hg hc => hkey g (lt_some hc) (by omega) (fun e => by
    obtain ⟨c', hc'⟩ := (hown g e).2
    exact kinds_ne hc hc' (by decide))
  refine ⟨key, ⟨⟨setH hb6 2 v', h.bld.p, rfl, ownsRow_later h.bld.row (fun g hv => hkey g (h.bld.own_lt hv).2 (by have := (h.bld.own_lt hv).1; omega) (fun e => ?_)), h.bld.ne, h.bld.lies, ?_⟩, ⟨ms ++ xs, hrow.set rb 2 _ hrb, by rw [List.length_append, List.length_append, h2, h4], fun j hj hj' => ?_⟩, h.pile.later (fun g hv => hkey g (h.pile.lt g hv) (by have := h.pile.own g hv; omega) (fun e => ?_)), hrb⟩, ⟨hg.os, hg.tape, hg.output, by rw [hzs]; exact hz, fun k hk hx => hkey k (Nat.lt_of_lt_of_le hk h.bld.lo) hx (fun e => by have := (hown k e).1; omega)⟩⟩
  · obtain ⟨c, hc⟩ := h.bld.kind hv
    obtain ⟨c', hc'⟩ := (hown g e).2
    exact kinds_ne hc hc' (by decide)
  · rw [hzs]; exact Nat.le_trans h.bld.lo hz
  · by_cases hlt : j < ms.length
    · rw [List.getElem_append_left hlt, List.getElem_append_left (by omega)]
      exact (h3 j hlt (by omega)).later hat
    · rw [List.getElem_append_right (by omega), List.getElem_append_right (by omega)]
      have e : j - ms.length = j - out.length := by omega
      simp only [e]
      rw [List.length_append] at hj hj'
      exact (h5 (j - out.length) (by omega) (by omega)).later hat
  · obtain ⟨c, hc⟩ := h.pile.kind g hv
    obtain ⟨c', hc'⟩ := (hown g e).2
    exact kinds_ne hc hc' (by decide)
/-- An element is opened. -/
theorem RdS.pushed (h : RdS lo rb s at_ ov pv bp tv fr out pile text w) {nm : ByteArray} {o : Obj} {v' : Value} {w6 : World} (hrow : GRow StrE lo w6 v' (pile ++ [nm])) (hg : (w.alloc o).grownBy w6 pv.ownBlock) :
    (∀ k, k < w.heap.size → pv.ownBlock ≠ some k → w6.heap[k]? = w.heap[k]?) ∧ RdS lo rb s at_ ov v' bp tv fr out (pile ++ [nm]) text (w6.setCell ⟨rb, 3, none⟩ v') ∧ KeepX lo rb w (w6.setCell ⟨rb, 3, none⟩ v') := by
  have hrb := h.rb
  have hown := h.out.own
  have hpo : ∀ g, pv.ownBlock = some g → lo ≤ g ∧ ∃ c, w.heap[g]? = some (.cells c 9 (0, 0)) := fun g hv => ⟨h.pile.own g hv, h.pile.kind g hv⟩
  have hz0 : w.heap.size ≤ (w.alloc o).heap.size := by simp
  have hz : w.heap.size ≤ w6.heap.size := Nat.le_trans hz0 hg.size
  have key : ∀ k, k < w.heap.size → pv.ownBlock ≠ some k → w6.heap[k]? = w.heap[k]? := fun k hk hn =>
    (hg.block k (by simp; omega) (fun e => hn e.symm)).trans (Lib.alloc_old w _ k hk)
  have hne : pv.ownBlock ≠ some rb := fun e => by have := (hpo rb e).1; omega
  have hb6 := (key rb h.blk.lt' hne).trans h.blk
  have hset : ∀ k, k ≠ rb → (w6.setCell ⟨rb, 3, none⟩ v').heap[k]? = w6.heap[k]? := fun k hk => Below.heap_setCell _ _ _ _ hk
  have hkey : ∀ k, k < w.heap.size → k ≠ rb → pv.ownBlock ≠ some k → (w6.setCell ⟨rb, 3, none⟩ v').heap[k]? = w.heap[k]? := fun k hk hx hn => (hset k hx).trans (key k hk hn)
  have hzs : (w6.setCell ⟨rb, 3, none⟩ v').heap.size = w6.heap.size := by simp [World.setCell]
  refine ⟨key, ⟨⟨setH hb6 3 v', h.bld.p, rfl, ownsRow_later h.bld.row (fun g hv => hkey g (h.bld.own_lt hv).2 (by have := (h.bld.own_lt hv).1; omega) (fun e => ?_)), h.bld.ne, h.bld.lies, ?_⟩, h.out.later (fun g hv => ?_) (fun g c hg hc => hkey g (lt_some hc) (by omega) (fun e => ?_)), hrow.set rb 3 _ hrb, hrb⟩, ⟨hg.os, hg.tape, hg.output, by rw [hzs]; exact hz, fun k hk hx => hkey k (Nat.lt_of_lt_of_le hk h.bld.lo) hx (fun e => by have := (hpo k e).1; omega)⟩⟩
  · obtain ⟨c, hc⟩ := h.bld.kind hv
    obtain ⟨c', hc'⟩ := (hpo g e).2
    exact kinds_ne hc hc' (by decide)
  · rw [hzs]; exact Nat.le_trans h.bld.lo hz
  · obtain ⟨h1, c, hc⟩ := hown g hv
    exact hkey g (lt_some hc) (by omega) (fun e => by
      obtain ⟨c', hc'⟩ := (hpo g e).2
      exact kinds_ne hc hc' (by decide))
  · obtain ⟨c', hc'⟩ := (hpo g e).2
    exact kinds_ne hc hc' (by decide)
/-- An element is closed. -/
theorem RdS.popped (h : RdS lo rb s at_ ov (.slice (some ⟨pg, 0, none⟩) (n + 1) pc) bp tv fr out pile text w) : RdS lo rb s at_ ov (.slice (some ⟨pg, 0, none⟩) n pc) bp tv fr out pile.dropLast text (w.setCell ⟨rb, 3, none⟩ (.slice (some ⟨pg, 0, none⟩) n pc)) := by
  have hrb := h.rb
  have hset : ∀ k, k ≠ rb → (w.setCell ⟨rb, 3, none⟩ (.slice (some ⟨pg, 0, none⟩) n pc)).heap[k]? = w.heap[k]? := fun k hk => Below.heap_setCell _ _ _ _ hk
  have hlen : pile.length = n + 1 := by
    obtain ⟨a, c, e⟩ := h.pile.form
    injection e with _ e _
    exact e.symm
  obtain ⟨p, x, rfl⟩ : ∃ p x, pile = p ++ [x] := ⟨pile.dropLast, pile.getLast (by intro e; rw [e] at hlen; simp at hlen), (List.dropLast_concat_getLast _).symm⟩
  rw [List.length_append, List.length_singleton] at hlen
  have hn : p.length = n := by omega
  subst hn
  have hrow : GRow StrE lo w (.slice (some ⟨pg, 0, none⟩) p.length pc) p := by
    have hp := h.pile
    unfold GRow at hp ⊢
    rw [List.length_append, List.length_singleton, show StrE.cs (p ++ [x]) = StrE.cs p ++ [.string x] by simp [ETy.cs, StrE]] at hp
    exact ownsRow_pop (by rw [ETy.cs_len]) hp
  rw [List.dropLast_concat]
  refine ⟨⟨setH h.blk 3 _, h.bld.p, rfl, ownsRow_later h.bld.row (fun g hv => hset g (by have := (h.bld.own_lt hv).1; omega)), h.bld.ne, h.bld.lies, by simpa [World.setCell] using h.bld.lo⟩, h.out.later (fun g hv => hset g (by have := (h.out.own g hv).1; omega)) (fun g c hg hc => hset g (by omega)), hrow.set rb 3 _ hrb, hrb⟩
end
end

section
open Go.RowKit Go.PlainAid

/-- What attr comes to. -/
def AttrEnd (lo rb : Nat) (s : ByteArray) (cs : Array Value) (v : Value) (l : List At2) (w : World) (x : Xr At2) (en : Ending) (w' : World) : Prop :=
  match x with
  | .bad e a => en = Died e a ∧ KeepX w.heap.size rb w w'
  | .ok q a => ∃ v', en = .returned v' ∧ Rdr rb s q (cs.setIfInBounds 1 (.int .i64 (q : Int))) w' ∧ GRow AtE lo w' v' (l ++ [a]) ∧ KeepB rb v w w'
theorem any_drop {l : List At2} {nm : ByteArray} {i : Nat} (h : i < l.length) : ((l.drop i).any fun a => decide (a.1 = nm)) = (decide (l[i].1 = nm) || ((l.drop (i + 1)).any fun a => decide (a.1 = nm))) := by
  rw [List.drop_eq_getElem_cons h, List.any_cons]
theorem keepB_of {rb : Nat} {v : Value} {w w4 w6 : World} {o : Obj} (hK : KeepX w.heap.size rb w w4) (hg : (w4.alloc o).grownBy w6 v.ownBlock) : KeepB rb v w w6 := by
  have hz := hK.size
  have hz2 : w4.heap.size ≤ (w4.alloc o).heap.size := by simp
  refine ⟨hg.os.trans hK.os, hg.tape.trans hK.tape, hg.output.trans hK.output, Nat.le_trans hz (Nat.le_trans hz2 hg.size), fun k hk hx hv => ?_⟩
  rw [hg.block k (by simp; omega) (fun e => hv e.symm), Lib.alloc_old w4 _ k (by omega)]
  exact hK.block k hk hx

set_option maxRecDepth 100000 in
set_option maxHeartbeats 8000000 in
theorem attr_any {lo rb : Nat} {s : ByteArray} {at_ : Nat} {cs : Array Value} {w : World} (h : Rdr rb s at_ cs w) (ha : at_ ≤ s.size) (hz : s.size ≤ 4000000000) (hG : ∀ W, KeepX w.heap.size rb w W → Gx W) (v : Value) (l : List At2) (hrow : GRow AtE lo w v l) (hlo : lo ≤ w.heap.size) (hrb : rb < lo) (hl : l.length ≤ 16) :
    Calls Tryz.prog 71 #[.pointer (some ⟨rb, 0, none⟩), v] w fun en w' => AttrEnd lo rb s cs v l w (attrX s at_ l) en w' := by
  have c1 := h.cell1
  have hnm := rdName_any h ha (by omega)
  have hrd0 := hrow.form
  have HROW := Lib.hid hrow; have HGG := Lib.hid hG; have HLO := Lib.hid hlo; have HRB := Lib.hid hrb
  obtain ⟨a, cap, rfl⟩ := hrd0
  obtain ⟨n, hn⟩ : ∃ n, l.length = n := ⟨_, rfl⟩
  have HN := Lib.hid hn
  rw [hn] at hl HROW ⊢
  clear hrow hG h hlo hrb hn
  go_enter Tryz.func71, Tryz.ntmps71
  go_wp2_with fail
  refine hnm.mono ?_
  intro e w1 hE
  unfold StepEnd at hE
  cases hx : nameX s at_ with
  | bad ee aa =>
    rw [hx] at hE
    obtain ⟨rfl, hK⟩ := hE
    go_wp2_with fail
    refine ⟨rfl, ?_⟩
    unfold AttrEnd attrX
    rw [hx]
    exact ⟨rfl, hK⟩
  | ok q nm =>
    rw [hx] at hE
    obtain ⟨rfl, hM⟩ := hE
    obtain ⟨hq1, hq2⟩ := nameX_in hx ha
    have hax : attrX s at_ l = if n = 16 then .bad 3 at_ else if (l.any fun a => decide (a.1 = nm)) = true then .bad 142 at_ else if bt s q = 61 then (match valX s (q + 1) with
      | .bad e a => .bad e a
      | .ok q' v => .ok q' (nm, v)) else .bad 140 q := by
      unfold attrX
      rw [hx]
      simp only [HN.out]
      rfl
    have hrow1 : GRow AtE lo w1 (.slice a n cap) l := HROW.out.later (fun g hg => hM.2.block g (HROW.out.lt g hg) (by have := HROW.out.own g hg; have := HRB.out; omega))
    have HAX := Lib.hid hax; have HM := Lib.hid hM
    have hf := fun (e : Int) W => fail_any (.pointer (some ⟨rb, 0, none⟩)) e (at_ : Int) W
    clear hax hnm c1 hx HROW
    by_cases h16 : n = 16
    · have hnI : (n : Int) = 16 := by omega
      clear hM hrow1
      go_wp2_with fail
      refine (hf _ _).mono ?_
      rintro e w' ⟨rfl, rfl⟩
      go_wp2_with fail
      refine ⟨rfl, ?_⟩
      rw [HAX.out, if_pos h16]
      exact ⟨rfl, HM.out.2⟩
    · have hnI : ((n : Int) == 16) = false := by simp; omega
      have hnI' : ¬ (n : Int) = 16 := by omega
      have HROW1 := Lib.hid hrow1; have H16 := Lib.hid h16
      clear hM hrow1 h16
      go_wp2_with fail
      go_loopg [23] (n + 1) (fun f s23 wx => ∃ i : Nat, s23 = .int .i64 (i : Int) ∧ f + i = n + 1 ∧ i ≤ n ∧ (l.any fun a => decide (a.1 = nm)) = ((l.drop i).any fun a => decide (a.1 = nm)) ∧ Below w1.heap.size w1 wx)
      case atStart => exact ⟨0, rfl, rfl, Nat.zero_le _, rfl, Below.refl _ _⟩
      case round =>
        obtain ⟨i, rfl, hg, hi, hp, hB⟩ := hrel
        have HG := Lib.hid hg; have HP := Lib.hid hp; have HB := Lib.hid hB
        have hi0 : (0 : Int) ≤ i := by omega
        have f1 : IntKind.i64.wrap ((i : Int) + 1) = (i : Int) + 1 := IntWalk.i64_in _ (by omega)
        by_cases hlt : i < n
        · have hil : i < l.length := by have := HN.out; omega
          rcases (HROW1.out.on hB).read with ⟨e1, _⟩ | ⟨g, cap', hv, hg1, hg2, hcap, hmax, hc⟩
          · rw [e1] at hil; simp at hil
          rw [HN.out] at hv hcap
          injection hv with e1 e2 e3
          subst e1 e3
          have c0 := hc i hil 0 (by decide)
          have c1 := hc i hil 1 (by decide)
          have hst := any_drop (nm := nm) hil
          obtain ⟨p, hpp⟩ : ∃ p, l[i] = p := ⟨_, rfl⟩
          rw [hpp] at hst c0 c1
          have hq := bytes_eqb p.1 nm
          have hiI : (i : Int) < n := by omega
          have HLT := Lib.hid hlt
          obtain ⟨K, V⟩ := p
          change wr.cell? ⟨g, i * 2 + 0, none⟩ = some (Value.string K) at c0
          change wr.cell? ⟨g, i * 2 + 1, none⟩ = some (Value.string V) at c1
          rw [Nat.add_zero] at c0
          simp only at hst hq
          have hBA := HB.out.trans (((Below.refl wr.heap.size wr).alloc (Nat.le_refl _) (.cells #[.string K, .string V] 40)).mono HB.out.size)
          have HBA := Lib.hid hBA
          clear hc hB hBA hg1 hg2
          by_cases he : K = nm
          · rw [decide_eq_true he] at hq
            have hres : (l.any fun a => decide (a.1 = nm)) = true := by rw [hp, hst, decide_eq_true he]; rfl
            have HR := Lib.hid hres
            clear hst he hres hp hg hi hpp hlt
            go_wp2_with fail
            refine (hf _ _).mono ?_
            rintro e w' ⟨rfl, rfl⟩
            go_wp2_with fail
            refine ⟨rfl, ?_⟩
            rw [HAX.out, if_neg H16.out, if_pos HR.out]
            exact ⟨rfl, HM.out.2.on HBA.out (Nat.le_refl _)⟩
          · rw [decide_eq_false he] at hq
            have hnx : (l.any fun a => decide (a.1 = nm)) = ((l.drop (i + 1)).any fun a => decide (a.1 = nm)) := by rw [hp, hst, decide_eq_false he]; rfl
            have HNX := Lib.hid hnx
            clear hst he hnx hp hg hi hpp hlt
            go_wp2_with fail
            go_roundg (n - i)
            case rel => exact ⟨i + 1, by simp, by have := HG.out; have := HLT.out; omega, HLT.out, HNX.out, HBA.out⟩
            case measure => have := HG.out; have := HLT.out; omega
        · have hiI : ¬ (i : Int) < n := by omega
          have hno : ¬ (l.any fun a => decide (a.1 = nm)) = true := by
            rw [hp, List.drop_eq_nil_of_le (by have := HN.out; omega)]
            simp
          have hM2 := HM.out.on hB
          have hnx := next_any hM2.1 hq2
          have hax := HAX.out
          rw [if_neg H16.out, if_neg hno] at hax
          clear hp hg hi hlt hno HP HG hB
          by_cases h61 : bt s q = 61
          · have hlt : q < s.size := by
              by_cases hp : q < s.size
              · exact hp
              · rw [bt_end s (by omega)] at h61; omega
            rw [if_pos h61] at hax
            rw [h61] at hnx
            have HX := Lib.hid hax; have HM2 := Lib.hid hM2; have HLT := Lib.hid hlt
            have hwy := fun W => want_yes (.pointer (some ⟨rb, 0, none⟩)) W
            clear hax hM2 h61 hlt HAX
            go_wp2_with fail
            refine hnx.mono ?_
            rintro e w2 ⟨rfl, hB2⟩
            have hM3 := HM2.out.on hB2
            have d1 := hM3.1.cell1
            have d0 := hM3.1.blk.free 1
            have f1 : IntKind.i64.wrap ((q : Int) + 1) = ((q + 1 : Nat) : Int) := by rw [IntWalk.i64_in _ (by omega)]; omega
            have hM4 := hM3.set (q + 1)
            have hrow4 : GRow AtE lo (w2.setCell ⟨rb, 1, none⟩ (.int .i64 ((q + 1 : Nat) : Int))) (.slice a n cap) l := ((HROW1.out.on HB.out).on hB2).set rb 1 _ HRB.out
            have hva := value_any hM4.1 HLT.out hz (fun W hW => HGG.out W (hM4.2.trans (hW.mono hM4.2.size)))
            have HM4 := Lib.hid hM4; have HROW4 := Lib.hid hrow4
            clear hM3 hM4 hrow4 hnx hB2
            go_wp2_with fail
            refine (hwy _).mono ?_
            rintro e w' ⟨rfl, rfl⟩
            go_wp2_with fail
            refine hva.mono ?_
            intro e w4 hE
            unfold StepEnd at hE
            cases hv : valX s (q + 1) with
            | bad ee aa =>
              rw [hv] at hE
              obtain ⟨rfl, hK⟩ := hE
              go_wp2_with fail
              refine ⟨rfl, ?_⟩
              rw [HX.out, hv]
              exact ⟨rfl, HM4.out.2.trans (hK.mono HM4.out.2.size)⟩
            | ok q2 vv =>
              rw [hv] at hE
              obtain ⟨rfl, hM5⟩ := hE
              have hM6 := HM4.out.trans hM5
              have hrow5 : GRow AtE lo w4 (.slice a n cap) l := HROW4.out.later (fun g hg => hM5.2.block g (HROW4.out.lt g hg) (by have := HROW4.out.own g hg; have := HRB.out; omega))
              have hx := HX.out
              rw [hv] at hx
              have hlo4 : lo ≤ w4.heap.size := Nat.le_trans HLO.out hM6.2.size
              have hlen : l.length ≤ 100000000 := by have := HN.out; omega
              have HXX := Lib.hid hx; have HM6 := Lib.hid hM6
              clear hv hx hM5 hM6 hva d1 d0
              go_wp2_with (at_builtin; go_must (refine wpList_snoc_g AtE (x := (nm, vv)) rfl _ _ rfl lo _ l rfl (hrow5.on ((Below.refl _ _).alloc (Nat.le_refl _) (.cells #[.string nm, .string vv] 40))) 1 _ rfl (Blk.new _ _ _) hlen (Nat.le_trans hlo4 (by simp)) ?_); intro v' w6 hrow6 hg6; obtain ⟨a', n', c', rfl⟩ := hrow6.form')
              go_ret
              rw [HXX.out]
              have ho : (Value.slice a n cap).ownBlock ≠ some rb := fun e => by have := hrow5.own rb e; have := HRB.out; omega
              refine ⟨_, rfl, ⟨?_, HM6.out.1.c0, HM6.out.1.c1⟩, hrow6, keepB_of HM6.out.2 hg6⟩
              have hb := HM6.out.1.blk
              exact (hg6.block rb (by simp; have := hb.lt'; omega) (fun e => ho e.symm)).trans ((Lib.alloc_old w4 _ rb hb.lt').trans hb)
          · have h61' : (bt s q == 61) = false := by simpa using h61
            rw [if_neg h61] at hax
            have HX := Lib.hid hax; have HM2 := Lib.hid hM2
            clear hax hM2 h61 HAX
            go_wp2_with fail
            refine hnx.mono ?_
            rintro e w2 ⟨rfl, hB2⟩
            have hM3 := HM2.out.on hB2
            have hwn := want_no hM3.1
            have HM3 := Lib.hid hM3
            clear hM3 hB2 hnx
            go_wp2_with fail
            refine hwn.mono ?_
            rintro e w' ⟨rfl, rfl⟩
            go_wp2_with fail
            refine ⟨rfl, ?_⟩
            rw [HX.out]
            exact ⟨rfl, HM3.out.2⟩
end

section
open Go.RowKit Go.PlainAid

theorem map_range (t : Array Value) (n : Nat) (h : t.size = n) : t = ((List.range n).map fun k => t.getD k undef).toArray := by
  apply Array.ext
  · simp [h]
  · intro i h1 h2
    simp [Array.getD, h1]
/-- The frame's slots by number. -/
theorem lit107 (t : Array Value) (h : t.size = 107) : ∃ f : Nat → Value, (∀ k, t.getD k undef = f k) ∧ t = #[f 0, f 1, f 2, f 3, f 4, f 5, f 6, f 7, f 8, f 9, f 10, f 11, f 12, f 13, f 14, f 15, f 16, f 17, f 18, f 19, f 20, f 21, f 22, f 23, f 24, f 25, f 26, f 27, f 28, f 29, f 30, f 31, f 32, f 33, f 34, f 35, f 36, f 37, f 38, f 39, f 40, f 41, f 42, f 43, f 44, f 45, f 46, f 47, f 48, f 49, f 50, f 51, f 52, f 53, f 54, f 55, f 56, f 57, f 58, f 59, f 60, f 61, f 62, f 63, f 64, f 65, f 66, f 67, f 68, f 69, f 70, f 71, f 72, f 73, f 74, f 75, f 76, f 77, f 78, f 79, f 80, f 81, f 82, f 83, f 84, f 85, f 86, f 87, f 88, f 89, f 90, f 91, f 92, f 93, f 94, f 95, f 96, f 97, f 98, f 99, f 100, f 101, f 102, f 103, f 104, f 105, f 106] :=
  ⟨fun k => t.getD k undef, fun _ => rfl, map_range t 107 h⟩
/-- Several elements put behind, in a region that draws its order. -/
theorem step_more_g {α : Type} (E : ETy α) {ops : Array Oper} {o : Oper} {a : Act} {K : Act → World → Prop} {Q : Exit → Act → World → Prop} {EE : Prop} {w : World} (xs : List α) (hgd : o.guard = none) (s y : Operand)
    (ho : o.op = .call { callee := .builtin .append, args := #[s, y], argTypes := #[E.ST, E.ST] })
    (base : Nat) (v : Value) (l : List α) (hs : a.eval s = v) (hrow : GRow E base w v l) (c : Nat) (g : Nat) (hx : a.eval y = .slice (some ⟨g, 0, none⟩) xs.length c) (hg : Blk w g (E.cs xs).toArray) (hlen : l.length ≤ 100000000) (hxl : xs.length ≤ 1000)
    (hz : base ≤ w.heap.size)
    (h : ∀ v' w', GRow E base w' v' (l ++ xs) → w.grownBy w' v.ownBlock → K (a.put o.dst v') w') : if Region.wanted o (yielded ops a.tmps) = true then Oper.wp Tryz.prog o a w K Q else EE := by
  have hw : Region.wanted o (yielded ops a.tmps) = true := by simp [Region.wanted, hgd]
  rw [if_pos hw]
  obtain ⟨i0, hi, hz0, hz1, hz2⟩ := info_parts E.info
  refine wp_append_own _ s y E.ST ho base E.T i0 E.z E.sz E.bs E.und hi hz0 hz1 hz2 E.hz E.hsz v l.length _ hs hrow ⟨g, 0, none⟩ xs.length c (E.cs xs) hx (by rw [E.cs_len]) (fun j u hu => ?_) (fun u hu => ?_) (by unfold maxLen; omega) ?_ hz ?_
  · rw [Lib.add_plain, hg.cell, Nat.zero_add]
    simpa using hu
  · unfold ETy.cs at hu
    rw [List.mem_flatMap] at hu
    obtain ⟨x, _, hu⟩ := hu
    exact E.hone x u hu
  · calc (l.length + xs.length) * E.bs ≤ (l.length + xs.length) * 1000 := Nat.mul_le_mul_left _ E.hbs
      _ ≤ 140737488355328 := by omega
  intro v' w' hown' hgrow _
  refine h v' w' ?_ hgrow
  unfold GRow
  have e : E.cs (l ++ xs) = E.cs l ++ E.cs xs := by unfold ETy.cs; simp
  rw [e, List.length_append]
  exact hown'
noncomputable def inScope : Code → Code
  | .scope c => c
  | .seq _ c => inScope c
  | c => c
noncomputable def bgCode : Code := inScope (Tryz.f46.body.getD .skip)
/-- The tokens of a begin. -/
def begT (p : Nat) (nm : ByteArray) (sh : Bool) (l : List At2) : List Tk := if sh = true then [⟨1, nm, l, ⟨#[]⟩, p⟩, ⟨2, nm, [], ⟨#[]⟩, p⟩] else [⟨1, nm, l, ⟨#[]⟩, p⟩]
/-- What begin comes to. -/
def BegEnd (lo rb : Nat) (s : ByteArray) (at_ : Nat) (bp tv : Value) (fr : Int) (out : List Tk) (pile : List ByteArray) (text : List UInt8) (w : World) (x : Xr (ByteArray × Bool × List At2)) (en : Ending) (w' : World) : Prop :=
  match x with
  | .bad e a => en = Died e a ∧ KeepX lo rb w w'
  | .ok q (nm, sh, l) => en = .returned (.tuple #[]) ∧ KeepX lo rb w w' ∧ ∃ ov pv, RdS lo rb s q ov pv bp tv fr (out ++ begT at_ nm sh l) (if sh = true then pile else pile ++ [nm]) text w'
/-- What holds at the label. -/
def BJ (rb : Nat) (s : ByteArray) (at_ : Nat) (cs : Array Value) (w0 : World) (nm : ByteArray) (R : Xr (Bool × List At2)) (a : Act) (w : World) : Prop :=
  ∃ (p : Nat) (l : List At2) (aa : Option Addr) (an ac fu : Nat), a.defers = [] ∧ a.tmps.size = 107 ∧ a.tmps.getD 0 undef = .pointer (some ⟨rb, 0, none⟩) ∧ a.tmps.getD 2 undef = .pointer (some ⟨w0.heap.size, 0, none⟩) ∧
    Moved rb s cs w0 p w ∧ Blk w w0.heap.size #[Value.int .i64 1, Value.string nm, Value.slice aa an ac, Value.string ⟨#[]⟩, Value.int .i64 (at_ : Int)] ∧ GRow AtE (w0.heap.size + 1) w (.slice aa an ac) l ∧ p ≤ s.size ∧ s.size - p < fu ∧ l.length ≤ 16 ∧ w0.heap.size < w.heap.size ∧ R = begF s fu p l
/-- How far the reader is. -/
def BM (rb : Nat) (s : ByteArray) (_ : Act) (w : World) : Nat := match w.cell? ⟨rb, 1, none⟩ with | some (.int _ i) => s.size - i.toNat | _ => 0
theorem BM_at {rb : Nat} {s : ByteArray} {a : Act} {w : World} {p : Nat} {cs : Array Value} (h : Rdr rb s p cs w) : BM rb s a w = s.size - p := by
  unfold BM
  rw [h.cell1]
  rfl
theorem begF_end {s : ByteArray} {f p k : Nat} {l : List At2} (hk : blk s p = k) (h : bt s k = 62) : begF s (f + 1) p l = .ok (k + 1) (false, l) := by
  subst hk
  conv => lhs; unfold begF
  rw [if_pos h]
theorem begF_short {s : ByteArray} {f p k : Nat} {l : List At2} (hk : blk s p = k) (h : bt s k = 47) (h2 : bt s (k + 1) = 62) : begF s (f + 1) p l = .ok (k + 2) (true, l) := by
  subst hk
  conv => lhs; unfold begF
  rw [if_neg (by omega), if_pos h, if_pos h2]
theorem begF_sbad {s : ByteArray} {f p k : Nat} {l : List At2} (hk : blk s p = k) (h : bt s k = 47) (h2 : bt s (k + 1) ≠ 62) : begF s (f + 1) p l = .bad 140 (k + 1) := by
  subst hk
  conv => lhs; unfold begF
  rw [if_neg (by omega), if_pos h, if_neg h2]
theorem begF_nob {s : ByteArray} {f p k : Nat} {l : List At2} (hk : blk s p = k) (h : bt s k ≠ 62) (h2 : bt s k ≠ 47) (h3 : k = p) : begF s (f + 1) p l = .bad 140 k := by
  subst hk
  conv => lhs; unfold begF
  rw [if_neg h, if_neg h2, if_pos h3]
theorem begF_attr {s : ByteArray} {f p k : Nat} {l : List At2} (hk : blk s p = k) (h : bt s k ≠ 62) (h2 : bt s k ≠ 47) (h3 : k ≠ p) : begF s (f + 1) p l = match attrX s k l with
    | .bad e a => .bad e a
    | .ok q a => begF s f q (l ++ [a]) := by
  subst hk
  conv => lhs; unfold begF
  rw [if_neg h, if_neg h2, if_neg h3]
  rfl
/-- The result of a begin from that of its attributes. -/
def begR (nm : ByteArray) (R : Xr (Bool × List At2)) : Xr (ByteArray × Bool × List At2) :=
  match R with
  | .bad e a => .bad e a
  | .ok q (sh, l) => .ok q (nm, sh, l)

set_option maxRecDepth 100000 in
set_option maxHeartbeats 8000000 in
theorem bg_pass : ∃ c, findLabel bgCode 0 = some (.seq .skip c) ∧ ∀ {lo rb : Nat} {s : ByteArray} {at_ : Nat} {ov pv bp tv : Value} {fr : Int} {out : List Tk} {pile : List ByteArray} {text : List UInt8} {ws w0 : World} {nm : ByteArray} {R : Xr (Bool × List At2)} {at0 : Nat}
    (J : Act → World → Prop) (a : Act) (w : World), RdS lo rb s at0 ov pv bp tv fr out pile text w0 → KeepX lo rb ws w0 → s.size ≤ 4000000000 → (∀ W, KeepX lo rb w0 W → Gx W) → out.length ≤ 10000000 → pile.length ≤ 64 →
    BJ rb s at_ #[.string s, .int .i64 (at0 : Int), ov, pv, bp, tv, .int .i64 fr] w0 nm R a w →
    (∀ a2 w2, BJ rb s at_ #[.string s, .int .i64 (at0 : Int), ov, pv, bp, tv, .int .i64 fr] w0 nm R a2 w2 → BM rb s a2 w2 < BM rb s a w → J a2 w2) → c.wp Tryz.prog (Exit.jump 0 J (bodyPost Tryz.prog Tryz.f46 (fun e w' => BegEnd lo rb s at_ bp tv fr out pile text ws (begR nm R) e w'))) a w := by
  refine ⟨_, rfl, ?_⟩
  rintro lo rb s at_ ov pv bp tv fr out pile text ws w0 nm R at0 J ⟨t, df⟩ w hR0 hK0 hz hG hol hpl ⟨p, l, aa, an, ac, fu, hdf, hsz, g0, g2, hM, hT, hrow, hp, hfu, hll, htw, hRe⟩ hJ
  obtain ⟨f, hf, rfl⟩ := lit107 t hsz
  simp only at hdf g0 g2
  rw [hf] at g0 g2
  subst hdf
  have hBM : ∀ A : Act, BM rb s A w = s.size - p := fun A => BM_at hM.1
  rw [g0, g2] at hJ ⊢
  obtain ⟨fu, rfl⟩ : ∃ k, fu = k + 1 := ⟨fu - 1, by omega⟩
  obtain ⟨k, hk⟩ : ∃ k, blk s p = k := ⟨_, rfl⟩
  have hbl := blanks_any hM.1 hp (by omega)
  have hks := blk_le s p hp
  have hpk := blk_ge s p
  rw [hk] at hbl hks hpk
  have HJ := Lib.hid hJ; have HRE := Lib.hid hRe; have HG := Lib.hid hG; have HR0 := Lib.hid hR0; have HK0 := Lib.hid hK0; have HM := Lib.hid hM; have HT := Lib.hid hT; have HROW := Lib.hid hrow; have HK := Lib.hid hk; have HBM := Lib.hid hBM; have HFU := Lib.hid hfu; have HTW := Lib.hid htw
  have hrb0 := hR0.rb
  have hlo0 := hR0.bld.lo
  have hrbw := hR0.blk.lt'
  have hovl : ∀ g, ov.ownBlock = some g → g < w0.heap.size := fun g hg => by
    obtain ⟨_, c, hc⟩ := hR0.out.own g hg
    exact lt_some hc
  have hpvl : ∀ g, pv.ownBlock = some g → g < w0.heap.size := fun g hg => hR0.pile.lt g hg
  have HOV := Lib.hid hovl; have HPV := Lib.hid hpvl
  have HTR := Lib.hid (show w0.heap.size ≠ rb by omega)
  have HRB := Lib.hid hrb0; have HLO := Lib.hid hlo0; have HRBW := Lib.hid hrbw
  have hll' : l.length < 100000 := by omega
  clear hJ hRe hG hR0 hK0 hM hT hrow hk hf hsz g0 g2 hBM hovl hpvl hrb0 hlo0 hrbw htw
  by_cases h62 : bt s k = 62
  · have hx := congrArg (begR nm) (HRE.out.trans (begF_end HK.out h62))
    have hlt : k < s.size := by
      by_cases hp : k < s.size
      · exact hp
      · rw [bt_end s (by omega)] at h62; omega
    have HX := Lib.hid (show begR nm R = .ok (k + 1) (nm, false, l) from hx)
    have HKL := Lib.hid hlt
    clear hx hlt
    go_wp2_with fail
    refine hbl.mono ?_
    rintro e w1 ⟨rfl, hM1⟩
    have hnx := next_any hM1.1 hks
    rw [h62] at hnx
    have HM1 := Lib.hid (HM.out.trans hM1)
    have HT1 := Lib.hid (show Blk w1 w0.heap.size #[Value.int .i64 1, Value.string nm, Value.slice aa an ac, Value.string ⟨#[]⟩, Value.int .i64 (at_ : Int)] from by
      obtain ⟨t, ht⟩ := HT.out
      exact ⟨t, (hM1.2.block _ HTW.out HTR.out).trans ht⟩)
    have HROW1 := Lib.hid (show GRow AtE (w0.heap.size + 1) w1 (.slice aa an ac) l from HROW.out.later (fun g hg => hM1.2.block g (HROW.out.lt g hg) (by have := HROW.out.own g hg; have := HRBW.out; omega)))
    clear hbl hM1
    go_wp2_with fail
    refine hnx.mono ?_
    rintro e w2 ⟨rfl, hB2⟩
    have hM2 := HM1.out.on hB2
    have d1 := hM2.1.cell1
    have d0 := hM2.1.blk.free 1
    have f1 : IntKind.i64.wrap ((k : Int) + 1) = ((k + 1 : Nat) : Int) := by rw [IntWalk.i64_in _ (by omega)]; omega
    clear hnx
    go_upto_region 9 with fail
    clear d0 d1 f1
    have hR5 : RdS lo rb s (k + 1) ov pv bp tv fr out pile text (w2.setCell ⟨rb, 1, none⟩ (.int .i64 ((k : Int) + 1))) := HR0.out.moved (hM2.set (k + 1))
    have hK5 : KeepX lo rb ws (w2.setCell ⟨rb, 1, none⟩ (.int .i64 ((k : Int) + 1))) := HK0.out.trans (HR0.out.keep (hM2.set (k + 1)))
    have hT5 : Blk (w2.setCell ⟨rb, 1, none⟩ (.int .i64 ((k : Int) + 1))) w0.heap.size #[Value.int .i64 1, Value.string nm, Value.slice aa an ac, Value.string ⟨#[]⟩, Value.int .i64 (at_ : Int)] := (HT1.out.on hB2).other rb 1 _ HTR.out
    have hA5 : GRow AtE lo (w2.setCell ⟨rb, 1, none⟩ (.int .i64 ((k : Int) + 1))) (.slice aa an ac) l := ((HROW1.out.on hB2).set rb 1 _ (by have := HRBW.out; omega)).mono (by have := HLO.out; omega)
    generalize w2.setCell ⟨rb, 1, none⟩ (.int .i64 ((k : Int) + 1)) = W at *
    obtain ⟨ms, hrow0, hms2, hms3⟩ := hR5.out
    obtain ⟨oa, on, oc, hov⟩ := hrow0.form'
    subst hov
    have hrlt := hR5.blk.lt'
    have c2 : W.cell? ⟨rb, 2, none⟩ = some (.slice oa on oc) := hR5.blk.cell 2
    have hR5d := hR5.on (Below.refl _ _).drew
    have hT5d := hT5.on (Below.refl _ _).drew
    have hSD : ∀ o, W.drew.cell? ⟨w0.heap.size, o, none⟩ = #[Value.int .i64 1, Value.string nm, Value.slice aa an ac, Value.string ⟨#[]⟩, Value.int .i64 (at_ : Int)][o]? := hT5d.cell
    have hSA : ∀ o, (W.drew.alloc (.cells #[.int .i64 1, .string nm, .slice aa an ac, .string ⟨#[]⟩, .int .i64 (at_ : Int)] 27)).cell? ⟨w0.heap.size, o, none⟩ = #[Value.int .i64 1, Value.string nm, Value.slice aa an ac, Value.string ⟨#[]⟩, Value.int .i64 (at_ : Int)][o]? := (hT5d.alloc _).cell
    have hrowA : GRow TkE lo (W.drew.alloc (.cells #[.int .i64 1, .string nm, .slice aa an ac, .string ⟨#[]⟩, .int .i64 (at_ : Int)] 27)) (.slice oa on oc) ms := (hrow0.on (Below.refl _ _).drew).on ((Below.refl _ _).alloc (Nat.le_refl _) _)
    have hbase : lo ≤ (W.drew.alloc (.cells #[.int .i64 1, .string nm, .slice aa an ac, .string ⟨#[]⟩, .int .i64 (at_ : Int)] 27)).heap.size := Nat.le_trans hR5d.bld.lo (by simp)
    have hlen : ms.length ≤ 100000000 := by omega
    have hlen2 : pile.length ≤ 100000000 := by omega
    have hms3d : ∀ j (h : j < ms.length) (h' : j < out.length), TkOk lo W.drew ms[j] out[j] := fun j h h' => (hms3 j h h').later (fun g c _ hc => rfl)
    have htok : ∀ j (h : j < [(⟨1, nm, aa, an, ac, ⟨#[]⟩, at_⟩ : TkM)].length) (h' : j < [(⟨1, nm, l, ⟨#[]⟩, at_⟩ : Tk)].length), TkOk lo W.drew [(⟨1, nm, aa, an, ac, ⟨#[]⟩, at_⟩ : TkM)][j] [(⟨1, nm, l, ⟨#[]⟩, at_⟩ : Tk)][j] := fun j h h' => by
      obtain rfl : j = 0 := by simp at h; omega
      exact ⟨rfl, rfl, rfl, rfl, hA5.on (Below.refl _ _).drew⟩
    have hpk0 : ∀ v' w6, GRow TkE lo w6 v' (ms ++ [⟨1, nm, aa, an, ac, ⟨#[]⟩, at_⟩]) → (W.drew.alloc (.cells #[.int .i64 1, .string nm, .slice aa an ac, .string ⟨#[]⟩, .int .i64 (at_ : Int)] 27)).grownBy w6 (Value.slice oa on oc).ownBlock → w6.frozen? ⟨rb, 2, none⟩ = false ∧ w6.cell? ⟨rb, 2, none⟩ = some (.slice oa on oc) ∧ (∀ o, w6.cell? ⟨w0.heap.size, o, none⟩ = #[Value.int .i64 1, Value.string nm, Value.slice aa an ac, Value.string ⟨#[]⟩, Value.int .i64 (at_ : Int)][o]?) ∧ (∀ o, (w6.setCell ⟨rb, 2, none⟩ v').cell? ⟨w0.heap.size, o, none⟩ = #[Value.int .i64 1, Value.string nm, Value.slice aa an ac, Value.string ⟨#[]⟩, Value.int .i64 (at_ : Int)][o]?) ∧
        RdS lo rb s (k + 1) v' pv bp tv fr (out ++ [⟨1, nm, l, ⟨#[]⟩, at_⟩]) pile text (w6.setCell ⟨rb, 2, none⟩ v') ∧ KeepX lo rb ws (w6.setCell ⟨rb, 2, none⟩ v') ∧ Blk (w6.setCell ⟨rb, 2, none⟩ v') w0.heap.size #[Value.int .i64 1, Value.string nm, Value.slice aa an ac, Value.string ⟨#[]⟩, Value.int .i64 (at_ : Int)] := fun v' w6 hr hg => by
      obtain ⟨hk, hRn, hKn⟩ := hR5d.told hms2 hms3d rfl htok hr hg
      have hb6 := (hk rb hR5d.blk.lt' (fun e => by have := (hR5d.out.own rb e).1; have := hR5d.rb; omega)).trans hR5d.blk
      have ht6 : Blk w6 w0.heap.size #[Value.int .i64 1, Value.string nm, Value.slice aa an ac, Value.string ⟨#[]⟩, Value.int .i64 (at_ : Int)] := by
        obtain ⟨t, ht⟩ := hT5d
        exact ⟨t, (hk _ (lt_some ht) (fun e => by have := HOV.out _ e; omega)).trans ht⟩
      exact ⟨freeH hb6 2, cellH hb6 2, ht6.cell, (ht6.other rb 2 v' HTR.out).cell, hRn, hK5.trans ((KeepX.of (Below.refl _ _).drew (Nat.le_refl _)).trans hKn), ht6.other rb 2 v' HTR.out⟩
    have HPK := Lib.hid (show ∀ v' w6, GRow TkE lo w6 v' (ms ++ [⟨1, nm, aa, an, ac, ⟨#[]⟩, at_⟩]) → (W.drew.alloc (.cells #[.int .i64 1, .string nm, .slice aa an ac, .string ⟨#[]⟩, .int .i64 (at_ : Int)] 27)).grownBy w6 (Value.slice oa on oc).ownBlock → w6.frozen? ⟨rb, 2, none⟩ = false ∧ w6.cell? ⟨rb, 2, none⟩ = some (.slice oa on oc) ∧ (∀ o, w6.cell? ⟨w0.heap.size, o, none⟩ = #[Value.int .i64 1, Value.string nm, Value.slice aa an ac, Value.string ⟨#[]⟩, Value.int .i64 (at_ : Int)][o]?) ∧ (∀ o, (w6.setCell ⟨rb, 2, none⟩ v').cell? ⟨w0.heap.size, o, none⟩ = #[Value.int .i64 1, Value.string nm, Value.slice aa an ac, Value.string ⟨#[]⟩, Value.int .i64 (at_ : Int)][o]?) from fun v' w6 hr hg => ⟨(hpk0 v' w6 hr hg).1, (hpk0 v' w6 hr hg).2.1, (hpk0 v' w6 hr hg).2.2.1, (hpk0 v' w6 hr hg).2.2.2.1⟩)
    have HR9 := Lib.hid (fun v' w6 hr hg => (hpk0 v' w6 hr hg).2.2.2.2)
    have HSD := Lib.hid hSD; have HSA := Lib.hid hSA; have HROWA := Lib.hid hrowA
    clear hpk0 hR5 hR5d hT5 hT5d hK5 hA5 hSD hSA hrowA hms3 hms3d htok hrow0 hM2 hB2 hms2
    refine wp_region_held_drew (S := fun w' => ∀ o, w'.cell? ⟨w0.heap.size, o, none⟩ = #[Value.int .i64 1, Value.string nm, Value.slice aa an ac, Value.string ⟨#[]⟩, Value.int .i64 (at_ : Int)][o]?) (by kernel_rfl) (HSD.out) (fun hHeld => ?_)
    refine wpAnyH_take (i := 0) (v := ?_) rfl (by kernel_rfl) (by kernel_rfl) (by kernel_rfl) (fun _ _ _ h => h) (Or.inl ⟨by rfl, ?_⟩) hHeld ?_
    rotate_left
    · intro w hSw; (try dsimp only at hSw); first | (go_simp; done) | (go_simp; with_reducible rfl)
    try simp only [Act.put, List.setIfInBounds_toArray, List.set_cons_zero, List.set_cons_succ, List.getElem_toArray, List.getElem_cons_zero]
    refine wpAnyH_take (i := 1) (v := ?_) rfl (by kernel_rfl) (by kernel_rfl) (by kernel_rfl) (fun _ _ _ h => h) (Or.inl ⟨by rfl, ?_⟩) hHeld ?_
    rotate_left
    · intro w hSw; (try dsimp only at hSw); first | (go_simp; done) | (go_simp; with_reducible rfl)
    try simp only [Act.put, List.setIfInBounds_toArray, List.set_cons_zero, List.set_cons_succ, List.getElem_toArray, List.getElem_cons_zero, List.getElem_cons_succ]
    refine wpAnyH_take (i := 2) (v := ?_) rfl (by kernel_rfl) (by kernel_rfl) (by kernel_rfl) (fun _ _ _ h => h) (Or.inl ⟨by rfl, ?_⟩) hHeld ?_
    rotate_left
    · intro w hSw; (try dsimp only at hSw); first | (go_simp; done) | (go_simp; with_reducible rfl)
    try simp only [Act.put, List.setIfInBounds_toArray, List.set_cons_zero, List.set_cons_succ, List.getElem_toArray, List.getElem_cons_zero, List.getElem_cons_succ]
    refine wpAnyH_take (i := 3) (v := ?_) rfl (by kernel_rfl) (by kernel_rfl) (by kernel_rfl) (fun _ _ _ h => h) (Or.inl ⟨by rfl, ?_⟩) hHeld ?_
    rotate_left
    · intro w hSw; (try dsimp only at hSw); first | (go_simp; done) | (go_simp; with_reducible rfl)
    try simp only [Act.put, List.setIfInBounds_toArray, List.set_cons_zero, List.set_cons_succ, List.getElem_toArray, List.getElem_cons_zero, List.getElem_cons_succ]
    refine wpAnyH_take (i := 5) (v := ?_) rfl (by kernel_rfl) (by kernel_rfl) (by kernel_rfl) (fun _ _ _ h => h) (Or.inl ⟨by rfl, ?_⟩) hHeld ?_
    rotate_left
    · intro w hSw; (try dsimp only at hSw); first | (go_simp; done) | (go_simp; with_reducible rfl)
    try simp only [Act.put, List.setIfInBounds_toArray, List.set_cons_zero, List.set_cons_succ, List.getElem_toArray, List.getElem_cons_zero, List.getElem_cons_succ]
    refine wpAnyH_ready (rs := [4, 6]) (by kernel_rfl) (by simp) ?_
    refine AllReadyH.cons rfl (fun K hK => ?_) ?_
    go_simp
    refine hK.out _ _ (HSD.out) (fun hHeld => ?_)
    clear hK K
    refine wpAnyH_ready (rs := [6]) (by kernel_rfl) (by simp) ?_
    refine AllReadyH.cons rfl (fun K hK => ?_) AllReadyH.nil
    go_simp
    refine hK.out _ _ (HSA.out) (fun hHeld => ?_)
    clear hK K
    refine wpAnyH_ready (rs := [7]) (by kernel_rfl) (by simp) ?_
    refine AllReadyH.cons rfl (fun K hK => ?_) AllReadyH.nil
    (refine step_snoc_g TkE (x := ⟨1, nm, aa, an, ac, ⟨#[]⟩, at_⟩) rfl _ _ rfl lo (.slice oa on oc) ms rfl HROWA.out 1 _ rfl (Blk.new _ _ _) hlen hbase ?_; intro v' w6 hrow6 hg6; obtain ⟨a', n', c', rfl⟩ := hrow6.form'; obtain ⟨f6, c6, hS6, hS6'⟩ := HPK.out _ _ hrow6 hg6)
    refine hK.out _ _ (hS6) (fun hHeld => ?_)
    clear hK K
    refine wpAnyH_take (i := 8) (v := ?_) rfl (by kernel_rfl) (by kernel_rfl) (by kernel_rfl) (fun _ _ _ h => h) (Or.inl ⟨by rfl, ?_⟩) hHeld ?_
    rotate_left
    · intro w hSw; (try dsimp only at hSw); first | (go_simp; done) | (go_simp; with_reducible rfl)
    try simp only [Act.put, List.setIfInBounds_toArray, List.set_cons_zero, List.set_cons_succ, List.getElem_toArray, List.getElem_cons_zero, List.getElem_cons_succ]
    refine wpAnyH_take (i := 9) (v := ?_) rfl (by kernel_rfl) (by kernel_rfl) (by kernel_rfl) (fun _ _ _ h => h) (Or.inl ⟨by rfl, ?_⟩) hHeld ?_
    rotate_left
    · intro w hSw; (try dsimp only at hSw); first | (go_simp; done) | (go_simp; with_reducible rfl)
    try simp only [Act.put, List.setIfInBounds_toArray, List.set_cons_zero, List.set_cons_succ, List.getElem_toArray, List.getElem_cons_zero, List.getElem_cons_succ]
    refine wpAnyH_ready (rs := [10]) (by kernel_rfl) (by simp) ?_
    refine AllReadyH.cons rfl (fun K hK => ?_) AllReadyH.nil
    go_simp
    refine hK.out _ _ (hS6') (fun hHeld => ?_)
    clear hK K
    refine wpAnyH_done (by kernel_rfl) ?_ _
    have hR9 := HR9.out _ _ hrow6 hg6
    obtain ⟨hR9, hK9, hT9⟩ := hR9
    generalize w6.setCell ⟨rb, 2, none⟩ (.slice a' n' c') = W9 at *
    clear hS6' hS6 f6 c6 hg6 hrow6 hHeld
    have hrow10 := hR9.pile
    obtain ⟨pa, pn, pc, hpv⟩ := hrow10.form'
    subst hpv
    have hlt9 := hR9.blk.lt'
    have cp : W9.cell? ⟨rb, 3, none⟩ = some (.slice pa pn pc) := hR9.blk.cell 3
    have hSB : ∀ o, W9.drew.cell? ⟨w0.heap.size, o, none⟩ = #[Value.int .i64 1, Value.string nm, Value.slice aa an ac, Value.string ⟨#[]⟩, Value.int .i64 (at_ : Int)][o]? := (hT9.on (Below.refl _ _).drew).cell
    have hSC : ∀ o, (W9.drew.alloc (.cells #[.string nm] 9)).cell? ⟨w0.heap.size, o, none⟩ = #[Value.int .i64 1, Value.string nm, Value.slice aa an ac, Value.string ⟨#[]⟩, Value.int .i64 (at_ : Int)][o]? := ((hT9.on (Below.refl _ _).drew).alloc _).cell
    have hR9d := hR9.on (Below.refl _ _).drew
    have hrowB : GRow StrE lo (W9.drew.alloc (.cells #[.string nm] 9)) (.slice pa pn pc) pile := hR9d.pile.on ((Below.refl _ _).alloc (Nat.le_refl _) _)
    have hbase2 : lo ≤ (W9.drew.alloc (.cells #[.string nm] 9)).heap.size := Nat.le_trans hR9d.bld.lo (by simp)
    have htp : ∀ g, (Value.slice pa pn pc).ownBlock = some g → g ≠ w0.heap.size := fun g hg => by have := HPV.out g hg; omega
    have hpk2 : ∀ v' w6, GRow StrE lo w6 v' (pile ++ [nm]) → (W9.drew.alloc (.cells #[.string nm] 9)).grownBy w6 (Value.slice pa pn pc).ownBlock → w6.frozen? ⟨rb, 3, none⟩ = false ∧ w6.cell? ⟨rb, 3, none⟩ = some (.slice pa pn pc) ∧ (∀ o, w6.cell? ⟨w0.heap.size, o, none⟩ = #[Value.int .i64 1, Value.string nm, Value.slice aa an ac, Value.string ⟨#[]⟩, Value.int .i64 (at_ : Int)][o]?) ∧ (∀ o, (w6.setCell ⟨rb, 3, none⟩ v').cell? ⟨w0.heap.size, o, none⟩ = #[Value.int .i64 1, Value.string nm, Value.slice aa an ac, Value.string ⟨#[]⟩, Value.int .i64 (at_ : Int)][o]?) := fun v' w6 hr hg => by
      have hk := (hR9d.pushed hr hg).1
      have hb6 := (hk rb hR9d.blk.lt' (fun e => by have := hR9d.pile.own rb e; have := hR9d.rb; omega)).trans hR9d.blk
      have ht := (hT9.on (Below.refl _ _).drew)
      have ht6 : Blk w6 w0.heap.size #[Value.int .i64 1, Value.string nm, Value.slice aa an ac, Value.string ⟨#[]⟩, Value.int .i64 (at_ : Int)] := by
        obtain ⟨t, ht⟩ := ht
        exact ⟨t, (hk _ (lt_some ht) (fun e => htp _ e rfl)).trans ht⟩
      exact ⟨freeH hb6 3, cellH hb6 3, ht6.cell, (ht6.other rb 3 v' HTR.out).cell⟩
    have hr10 : ∀ v' w6, GRow StrE lo w6 v' (pile ++ [nm]) → (W9.drew.alloc (.cells #[.string nm] 9)).grownBy w6 (Value.slice pa pn pc).ownBlock → RdS lo rb s (k + 1) (.slice a' n' c') v' bp tv fr (out ++ [⟨1, nm, l, ⟨#[]⟩, at_⟩]) (pile ++ [nm]) text (w6.setCell ⟨rb, 3, none⟩ v') ∧ KeepX lo rb ws (w6.setCell ⟨rb, 3, none⟩ v') := fun v' w6 hr hg =>
      ⟨(hR9d.pushed hr hg).2.1, hK9.trans ((KeepX.of (Below.refl _ _).drew (Nat.le_refl _)).trans (hR9d.pushed hr hg).2.2)⟩
    have HROWB := Lib.hid hrowB; have HPK2 := Lib.hid hpk2; have HR10 := Lib.hid hr10; have HSB := Lib.hid hSB; have HSC := Lib.hid hSC
    clear hR9 hR9d hT9 hK9 hrow10 hrowB hpk2 hr10 hSB hSC htp
    go_upto_region 10 with fail
    refine wp_region_held_drew (S := fun w' => ∀ o, w'.cell? ⟨w0.heap.size, o, none⟩ = #[Value.int .i64 1, Value.string nm, Value.slice aa an ac, Value.string ⟨#[]⟩, Value.int .i64 (at_ : Int)][o]?) (by kernel_rfl) (HSB.out) (fun hHeld => ?_)
    refine wpAnyH_take (i := 0) (v := ?_) rfl (by kernel_rfl) (by kernel_rfl) (by kernel_rfl) (fun _ _ _ h => h) (Or.inl ⟨by rfl, ?_⟩) hHeld ?_
    rotate_left
    · intro w hSw; (try dsimp only at hSw); first | (go_simp; done) | (go_simp; with_reducible rfl)
    try simp only [Act.put, List.setIfInBounds_toArray, List.set_cons_zero, List.set_cons_succ, List.getElem_toArray, List.getElem_cons_zero]
    refine wpAnyH_take (i := 1) (v := ?_) rfl (by kernel_rfl) (by kernel_rfl) (by kernel_rfl) (fun _ _ _ h => h) (Or.inl ⟨by rfl, ?_⟩) hHeld ?_
    rotate_left
    · intro w hSw; (try dsimp only at hSw); first | (go_simp; done) | (go_simp; with_reducible rfl)
    try simp only [Act.put, List.setIfInBounds_toArray, List.set_cons_zero, List.set_cons_succ, List.getElem_toArray, List.getElem_cons_zero, List.getElem_cons_succ]
    refine wpAnyH_take (i := 2) (v := ?_) rfl (by kernel_rfl) (by kernel_rfl) (by kernel_rfl) (fun _ _ _ h => h) (Or.inl ⟨by rfl, ?_⟩) hHeld ?_
    rotate_left
    · intro w hSw; (try dsimp only at hSw); first | (go_simp; done) | (go_simp; with_reducible rfl)
    try simp only [Act.put, List.setIfInBounds_toArray, List.set_cons_zero, List.set_cons_succ, List.getElem_toArray, List.getElem_cons_zero, List.getElem_cons_succ]
    refine wpAnyH_take (i := 3) (v := ?_) rfl (by kernel_rfl) (by kernel_rfl) (by kernel_rfl) (fun _ _ _ h => h) (Or.inl ⟨by rfl, ?_⟩) hHeld ?_
    rotate_left
    · intro w hSw; (try dsimp only at hSw); first | (go_simp; done) | (go_simp; with_reducible rfl)
    try simp only [Act.put, List.setIfInBounds_toArray, List.set_cons_zero, List.set_cons_succ, List.getElem_toArray, List.getElem_cons_zero, List.getElem_cons_succ]
    refine wpAnyH_take (i := 5) (v := ?_) rfl (by kernel_rfl) (by kernel_rfl) (by kernel_rfl) (fun _ _ _ h => h) (Or.inl ⟨by rfl, ?_⟩) hHeld ?_
    rotate_left
    · intro w hSw; (try dsimp only at hSw); first | (go_simp; done) | (go_simp; with_reducible rfl)
    try simp only [Act.put, List.setIfInBounds_toArray, List.set_cons_zero, List.set_cons_succ, List.getElem_toArray, List.getElem_cons_zero, List.getElem_cons_succ]
    refine wpAnyH_take (i := 6) (v := ?_) rfl (by kernel_rfl) (by kernel_rfl) (by kernel_rfl) (fun _ _ _ h => h) (Or.inl ⟨by rfl, ?_⟩) hHeld ?_
    rotate_left
    · intro w hSw; (try dsimp only at hSw); first | (go_simp; done) | (go_simp; with_reducible rfl)
    try simp only [Act.put, List.setIfInBounds_toArray, List.set_cons_zero, List.set_cons_succ, List.getElem_toArray, List.getElem_cons_zero, List.getElem_cons_succ]
    refine wpAnyH_ready (rs := [4, 7]) (by kernel_rfl) (by simp) ?_
    refine AllReadyH.cons rfl (fun K hK => ?_) ?_
    go_simp
    refine hK.out _ _ (HSB.out) (fun hHeld => ?_)
    clear hK K
    refine wpAnyH_ready (rs := [7]) (by kernel_rfl) (by simp) ?_
    refine AllReadyH.cons rfl (fun K hK => ?_) AllReadyH.nil
    go_simp
    refine hK.out _ _ (HSC.out) (fun hHeld => ?_)
    clear hK K
    refine wpAnyH_ready (rs := [8]) (by kernel_rfl) (by simp) ?_
    refine AllReadyH.cons rfl (fun K hK => ?_) AllReadyH.nil
    (refine step_snoc_g StrE (x := nm) rfl _ _ rfl lo (.slice pa pn pc) pile rfl HROWB.out 1 _ rfl (Blk.new _ _ _) hlen2 hbase2 ?_; intro v' w8 hrow8 hg8; obtain ⟨a', n', c', rfl⟩ := hrow8.form'; obtain ⟨f8, c8, hS8, hS8'⟩ := HPK2.out _ _ hrow8 hg8)
    refine hK.out _ _ (hS8) (fun hHeld => ?_)
    clear hK K
    refine wpAnyH_take (i := 9) (v := ?_) rfl (by kernel_rfl) (by kernel_rfl) (by kernel_rfl) (fun _ _ _ h => h) (Or.inl ⟨by rfl, ?_⟩) hHeld ?_
    rotate_left
    · intro w hSw; (try dsimp only at hSw); first | (go_simp; done) | (go_simp; with_reducible rfl)
    try simp only [Act.put, List.setIfInBounds_toArray, List.set_cons_zero, List.set_cons_succ, List.getElem_toArray, List.getElem_cons_zero, List.getElem_cons_succ]
    refine wpAnyH_take (i := 10) (v := ?_) rfl (by kernel_rfl) (by kernel_rfl) (by kernel_rfl) (fun _ _ _ h => h) (Or.inl ⟨by rfl, ?_⟩) hHeld ?_
    rotate_left
    · intro w hSw; (try dsimp only at hSw); first | (go_simp; done) | (go_simp; with_reducible rfl)
    try simp only [Act.put, List.setIfInBounds_toArray, List.set_cons_zero, List.set_cons_succ, List.getElem_toArray, List.getElem_cons_zero, List.getElem_cons_succ]
    refine wpAnyH_ready (rs := [11]) (by kernel_rfl) (by simp) ?_
    refine AllReadyH.cons rfl (fun K hK => ?_) AllReadyH.nil
    go_simp
    refine hK.out _ _ (hS8') (fun hHeld => ?_)
    clear hK K
    refine wpAnyH_done (by kernel_rfl) ?_ _
    go_wp2_with fail
    have hE := HR10.out _ _ hrow8 hg8
    simp only [Exit.jump]
    refine bodyPost_ret (results_none rfl _ _ _) rfl ?_
    rw [HX.out]
    exact ⟨rfl, hE.2, _, _, hE.1⟩
    refine AllReadyH.cons rfl (fun K hK => ?_) ?_
    go_simp
    refine hK.out _ _ (HSC.out) (fun hHeld => ?_)
    clear hK K
    refine wpAnyH_ready (rs := [4]) (by kernel_rfl) (by simp) ?_
    refine AllReadyH.cons rfl (fun K hK => ?_) AllReadyH.nil
    go_simp
    refine hK.out _ _ (HSC.out) (fun hHeld => ?_)
    clear hK K
    refine wpAnyH_ready (rs := [8]) (by kernel_rfl) (by simp) ?_
    refine AllReadyH.cons rfl (fun K hK => ?_) AllReadyH.nil
    (refine step_snoc_g StrE (x := nm) rfl _ _ rfl lo (.slice pa pn pc) pile rfl HROWB.out 1 _ rfl (Blk.new _ _ _) hlen2 hbase2 ?_; intro v' w8 hrow8 hg8; obtain ⟨a', n', c', rfl⟩ := hrow8.form'; obtain ⟨f8, c8, hS8, hS8'⟩ := HPK2.out _ _ hrow8 hg8)
    refine hK.out _ _ (hS8) (fun hHeld => ?_)
    clear hK K
    refine wpAnyH_take (i := 9) (v := ?_) rfl (by kernel_rfl) (by kernel_rfl) (by kernel_rfl) (fun _ _ _ h => h) (Or.inl ⟨by rfl, ?_⟩) hHeld ?_
    rotate_left
    · intro w hSw; (try dsimp only at hSw); first | (go_simp; done) | (go_simp; with_reducible rfl)
    try simp only [Act.put, List.setIfInBounds_toArray, List.set_cons_zero, List.set_cons_succ, List.getElem_toArray, List.getElem_cons_zero, List.getElem_cons_succ]
    refine wpAnyH_take (i := 10) (v := ?_) rfl (by kernel_rfl) (by kernel_rfl) (by kernel_rfl) (fun _ _ _ h => h) (Or.inl ⟨by rfl, ?_⟩) hHeld ?_
    rotate_left
    · intro w hSw; (try dsimp only at hSw); first | (go_simp; done) | (go_simp; with_reducible rfl)
    try simp only [Act.put, List.setIfInBounds_toArray, List.set_cons_zero, List.set_cons_succ, List.getElem_toArray, List.getElem_cons_zero, List.getElem_cons_succ]
    refine wpAnyH_ready (rs := [11]) (by kernel_rfl) (by simp) ?_
    refine AllReadyH.cons rfl (fun K hK => ?_) AllReadyH.nil
    go_simp
    refine hK.out _ _ (hS8') (fun hHeld => ?_)
    clear hK K
    refine wpAnyH_done (by kernel_rfl) ?_ _
    go_wp2_with fail
    have hE := HR10.out _ _ hrow8 hg8
    simp only [Exit.jump]
    refine bodyPost_ret (results_none rfl _ _ _) rfl ?_
    rw [HX.out]
    exact ⟨rfl, hE.2, _, _, hE.1⟩
    exact AllReadyH.nil
    refine AllReadyH.cons rfl (fun K hK => ?_) ?_
    go_simp
    refine hK.out _ _ (HSA.out) (fun hHeld => ?_)
    clear hK K
    refine wpAnyH_ready (rs := [4]) (by kernel_rfl) (by simp) ?_
    refine AllReadyH.cons rfl (fun K hK => ?_) AllReadyH.nil
    go_simp
    refine hK.out _ _ (HSA.out) (fun hHeld => ?_)
    clear hK K
    refine wpAnyH_ready (rs := [7]) (by kernel_rfl) (by simp) ?_
    refine AllReadyH.cons rfl (fun K hK => ?_) AllReadyH.nil
    (refine step_snoc_g TkE (x := ⟨1, nm, aa, an, ac, ⟨#[]⟩, at_⟩) rfl _ _ rfl lo (.slice oa on oc) ms rfl HROWA.out 1 _ rfl (Blk.new _ _ _) hlen hbase ?_; intro v' w6 hrow6 hg6; obtain ⟨a', n', c', rfl⟩ := hrow6.form'; obtain ⟨f6, c6, hS6, hS6'⟩ := HPK.out _ _ hrow6 hg6)
    refine hK.out _ _ (hS6) (fun hHeld => ?_)
    clear hK K
    refine wpAnyH_take (i := 8) (v := ?_) rfl (by kernel_rfl) (by kernel_rfl) (by kernel_rfl) (fun _ _ _ h => h) (Or.inl ⟨by rfl, ?_⟩) hHeld ?_
    rotate_left
    · intro w hSw; (try dsimp only at hSw); first | (go_simp; done) | (go_simp; with_reducible rfl)
    try simp only [Act.put, List.setIfInBounds_toArray, List.set_cons_zero, List.set_cons_succ, List.getElem_toArray, List.getElem_cons_zero, List.getElem_cons_succ]
    refine wpAnyH_take (i := 9) (v := ?_) rfl (by kernel_rfl) (by kernel_rfl) (by kernel_rfl) (fun _ _ _ h => h) (Or.inl ⟨by rfl, ?_⟩) hHeld ?_
    rotate_left
    · intro w hSw; (try dsimp only at hSw); first | (go_simp; done) | (go_simp; with_reducible rfl)
    try simp only [Act.put, List.setIfInBounds_toArray, List.set_cons_zero, List.set_cons_succ, List.getElem_toArray, List.getElem_cons_zero, List.getElem_cons_succ]
    refine wpAnyH_ready (rs := [10]) (by kernel_rfl) (by simp) ?_
    refine AllReadyH.cons rfl (fun K hK => ?_) AllReadyH.nil
    go_simp
    refine hK.out _ _ (hS6') (fun hHeld => ?_)
    clear hK K
    refine wpAnyH_done (by kernel_rfl) ?_ _
    have hR9 := HR9.out _ _ hrow6 hg6
    obtain ⟨hR9, hK9, hT9⟩ := hR9
    generalize w6.setCell ⟨rb, 2, none⟩ (.slice a' n' c') = W9 at *
    clear hS6' hS6 f6 c6 hg6 hrow6 hHeld
    have hrow10 := hR9.pile
    obtain ⟨pa, pn, pc, hpv⟩ := hrow10.form'
    subst hpv
    have hlt9 := hR9.blk.lt'
    have cp : W9.cell? ⟨rb, 3, none⟩ = some (.slice pa pn pc) := hR9.blk.cell 3
    have hSB : ∀ o, W9.drew.cell? ⟨w0.heap.size, o, none⟩ = #[Value.int .i64 1, Value.string nm, Value.slice aa an ac, Value.string ⟨#[]⟩, Value.int .i64 (at_ : Int)][o]? := (hT9.on (Below.refl _ _).drew).cell
    have hSC : ∀ o, (W9.drew.alloc (.cells #[.string nm] 9)).cell? ⟨w0.heap.size, o, none⟩ = #[Value.int .i64 1, Value.string nm, Value.slice aa an ac, Value.string ⟨#[]⟩, Value.int .i64 (at_ : Int)][o]? := ((hT9.on (Below.refl _ _).drew).alloc _).cell
    have hR9d := hR9.on (Below.refl _ _).drew
    have hrowB : GRow StrE lo (W9.drew.alloc (.cells #[.string nm] 9)) (.slice pa pn pc) pile := hR9d.pile.on ((Below.refl _ _).alloc (Nat.le_refl _) _)
    have hbase2 : lo ≤ (W9.drew.alloc (.cells #[.string nm] 9)).heap.size := Nat.le_trans hR9d.bld.lo (by simp)
    have htp : ∀ g, (Value.slice pa pn pc).ownBlock = some g → g ≠ w0.heap.size := fun g hg => by have := HPV.out g hg; omega
    have hpk2 : ∀ v' w6, GRow StrE lo w6 v' (pile ++ [nm]) → (W9.drew.alloc (.cells #[.string nm] 9)).grownBy w6 (Value.slice pa pn pc).ownBlock → w6.frozen? ⟨rb, 3, none⟩ = false ∧ w6.cell? ⟨rb, 3, none⟩ = some (.slice pa pn pc) ∧ (∀ o, w6.cell? ⟨w0.heap.size, o, none⟩ = #[Value.int .i64 1, Value.string nm, Value.slice aa an ac, Value.string ⟨#[]⟩, Value.int .i64 (at_ : Int)][o]?) ∧ (∀ o, (w6.setCell ⟨rb, 3, none⟩ v').cell? ⟨w0.heap.size, o, none⟩ = #[Value.int .i64 1, Value.string nm, Value.slice aa an ac, Value.string ⟨#[]⟩, Value.int .i64 (at_ : Int)][o]?) := fun v' w6 hr hg => by
      have hk := (hR9d.pushed hr hg).1
      have hb6 := (hk rb hR9d.blk.lt' (fun e => by have := hR9d.pile.own rb e; have := hR9d.rb; omega)).trans hR9d.blk
      have ht := (hT9.on (Below.refl _ _).drew)
      have ht6 : Blk w6 w0.heap.size #[Value.int .i64 1, Value.string nm, Value.slice aa an ac, Value.string ⟨#[]⟩, Value.int .i64 (at_ : Int)] := by
        obtain ⟨t, ht⟩ := ht
        exact ⟨t, (hk _ (lt_some ht) (fun e => htp _ e rfl)).trans ht⟩
      exact ⟨freeH hb6 3, cellH hb6 3, ht6.cell, (ht6.other rb 3 v' HTR.out).cell⟩
    have hr10 : ∀ v' w6, GRow StrE lo w6 v' (pile ++ [nm]) → (W9.drew.alloc (.cells #[.string nm] 9)).grownBy w6 (Value.slice pa pn pc).ownBlock → RdS lo rb s (k + 1) (.slice a' n' c') v' bp tv fr (out ++ [⟨1, nm, l, ⟨#[]⟩, at_⟩]) (pile ++ [nm]) text (w6.setCell ⟨rb, 3, none⟩ v') ∧ KeepX lo rb ws (w6.setCell ⟨rb, 3, none⟩ v') := fun v' w6 hr hg =>
      ⟨(hR9d.pushed hr hg).2.1, hK9.trans ((KeepX.of (Below.refl _ _).drew (Nat.le_refl _)).trans (hR9d.pushed hr hg).2.2)⟩
    have HROWB := Lib.hid hrowB; have HPK2 := Lib.hid hpk2; have HR10 := Lib.hid hr10; have HSB := Lib.hid hSB; have HSC := Lib.hid hSC
    clear hR9 hR9d hT9 hK9 hrow10 hrowB hpk2 hr10 hSB hSC htp
    go_upto_region 10 with fail
    refine wp_region_held_drew (S := fun w' => ∀ o, w'.cell? ⟨w0.heap.size, o, none⟩ = #[Value.int .i64 1, Value.string nm, Value.slice aa an ac, Value.string ⟨#[]⟩, Value.int .i64 (at_ : Int)][o]?) (by kernel_rfl) (HSB.out) (fun hHeld => ?_)
    refine wpAnyH_take (i := 0) (v := ?_) rfl (by kernel_rfl) (by kernel_rfl) (by kernel_rfl) (fun _ _ _ h => h) (Or.inl ⟨by rfl, ?_⟩) hHeld ?_
    rotate_left
    · intro w hSw; (try dsimp only at hSw); first | (go_simp; done) | (go_simp; with_reducible rfl)
    try simp only [Act.put, List.setIfInBounds_toArray, List.set_cons_zero, List.set_cons_succ, List.getElem_toArray, List.getElem_cons_zero]
    refine wpAnyH_take (i := 1) (v := ?_) rfl (by kernel_rfl) (by kernel_rfl) (by kernel_rfl) (fun _ _ _ h => h) (Or.inl ⟨by rfl, ?_⟩) hHeld ?_
    rotate_left
    · intro w hSw; (try dsimp only at hSw); first | (go_simp; done) | (go_simp; with_reducible rfl)
    try simp only [Act.put, List.setIfInBounds_toArray, List.set_cons_zero, List.set_cons_succ, List.getElem_toArray, List.getElem_cons_zero, List.getElem_cons_succ]
    refine wpAnyH_take (i := 2) (v := ?_) rfl (by kernel_rfl) (by kernel_rfl) (by kernel_rfl) (fun _ _ _ h => h) (Or.inl ⟨by rfl, ?_⟩) hHeld ?_
    rotate_left
    · intro w hSw; (try dsimp only at hSw); first | (go_simp; done) | (go_simp; with_reducible rfl)
    try simp only [Act.put, List.setIfInBounds_toArray, List.set_cons_zero, List.set_cons_succ, List.getElem_toArray, List.getElem_cons_zero, List.getElem_cons_succ]
    refine wpAnyH_take (i := 3) (v := ?_) rfl (by kernel_rfl) (by kernel_rfl) (by kernel_rfl) (fun _ _ _ h => h) (Or.inl ⟨by rfl, ?_⟩) hHeld ?_
    rotate_left
    · intro w hSw; (try dsimp only at hSw); first | (go_simp; done) | (go_simp; with_reducible rfl)
    try simp only [Act.put, List.setIfInBounds_toArray, List.set_cons_zero, List.set_cons_succ, List.getElem_toArray, List.getElem_cons_zero, List.getElem_cons_succ]
    refine wpAnyH_take (i := 5) (v := ?_) rfl (by kernel_rfl) (by kernel_rfl) (by kernel_rfl) (fun _ _ _ h => h) (Or.inl ⟨by rfl, ?_⟩) hHeld ?_
    rotate_left
    · intro w hSw; (try dsimp only at hSw); first | (go_simp; done) | (go_simp; with_reducible rfl)
    try simp only [Act.put, List.setIfInBounds_toArray, List.set_cons_zero, List.set_cons_succ, List.getElem_toArray, List.getElem_cons_zero, List.getElem_cons_succ]
    refine wpAnyH_take (i := 6) (v := ?_) rfl (by kernel_rfl) (by kernel_rfl) (by kernel_rfl) (fun _ _ _ h => h) (Or.inl ⟨by rfl, ?_⟩) hHeld ?_
    rotate_left
    · intro w hSw; (try dsimp only at hSw); first | (go_simp; done) | (go_simp; with_reducible rfl)
    try simp only [Act.put, List.setIfInBounds_toArray, List.set_cons_zero, List.set_cons_succ, List.getElem_toArray, List.getElem_cons_zero, List.getElem_cons_succ]
    refine wpAnyH_ready (rs := [4, 7]) (by kernel_rfl) (by simp) ?_
    refine AllReadyH.cons rfl (fun K hK => ?_) ?_
    go_simp
    refine hK.out _ _ (HSB.out) (fun hHeld => ?_)
    clear hK K
    refine wpAnyH_ready (rs := [7]) (by kernel_rfl) (by simp) ?_
    refine AllReadyH.cons rfl (fun K hK => ?_) AllReadyH.nil
    go_simp
    refine hK.out _ _ (HSC.out) (fun hHeld => ?_)
    clear hK K
    refine wpAnyH_ready (rs := [8]) (by kernel_rfl) (by simp) ?_
    refine AllReadyH.cons rfl (fun K hK => ?_) AllReadyH.nil
    (refine step_snoc_g StrE (x := nm) rfl _ _ rfl lo (.slice pa pn pc) pile rfl HROWB.out 1 _ rfl (Blk.new _ _ _) hlen2 hbase2 ?_; intro v' w8 hrow8 hg8; obtain ⟨a', n', c', rfl⟩ := hrow8.form'; obtain ⟨f8, c8, hS8, hS8'⟩ := HPK2.out _ _ hrow8 hg8)
    refine hK.out _ _ (hS8) (fun hHeld => ?_)
    clear hK K
    refine wpAnyH_take (i := 9) (v := ?_) rfl (by kernel_rfl) (by kernel_rfl) (by kernel_rfl) (fun _ _ _ h => h) (Or.inl ⟨by rfl, ?_⟩) hHeld ?_
    rotate_left
    · intro w hSw; (try dsimp only at hSw); first | (go_simp; done) | (go_simp; with_reducible rfl)
    try simp only [Act.put, List.setIfInBounds_toArray, List.set_cons_zero, List.set_cons_succ, List.getElem_toArray, List.getElem_cons_zero, List.getElem_cons_succ]
    refine wpAnyH_take (i := 10) (v := ?_) rfl (by kernel_rfl) (by kernel_rfl) (by kernel_rfl) (fun _ _ _ h => h) (Or.inl ⟨by rfl, ?_⟩) hHeld ?_
    rotate_left
    · intro w hSw; (try dsimp only at hSw); first | (go_simp; done) | (go_simp; with_reducible rfl)
    try simp only [Act.put, List.setIfInBounds_toArray, List.set_cons_zero, List.set_cons_succ, List.getElem_toArray, List.getElem_cons_zero, List.getElem_cons_succ]
    refine wpAnyH_ready (rs := [11]) (by kernel_rfl) (by simp) ?_
    refine AllReadyH.cons rfl (fun K hK => ?_) AllReadyH.nil
    go_simp
    refine hK.out _ _ (hS8') (fun hHeld => ?_)
    clear hK K
    refine wpAnyH_done (by kernel_rfl) ?_ _
    go_wp2_with fail
    have hE := HR10.out _ _ hrow8 hg8
    simp only [Exit.jump]
    refine bodyPost_ret (results_none rfl _ _ _) rfl ?_
    rw [HX.out]
    exact ⟨rfl, hE.2, _, _, hE.1⟩
    refine AllReadyH.cons rfl (fun K hK => ?_) ?_
    go_simp
    refine hK.out _ _ (HSC.out) (fun hHeld => ?_)
    clear hK K
    refine wpAnyH_ready (rs := [4]) (by kernel_rfl) (by simp) ?_
    refine AllReadyH.cons rfl (fun K hK => ?_) AllReadyH.nil
    go_simp
    refine hK.out _ _ (HSC.out) (fun hHeld => ?_)
    clear hK K
    refine wpAnyH_ready (rs := [8]) (by kernel_rfl) (by simp) ?_
    refine AllReadyH.cons rfl (fun K hK => ?_) AllReadyH.nil
    (refine step_snoc_g StrE (x := nm) rfl _ _ rfl lo (.slice pa pn pc) pile rfl HROWB.out 1 _ rfl (Blk.new _ _ _) hlen2 hbase2 ?_; intro v' w8 hrow8 hg8; obtain ⟨a', n', c', rfl⟩ := hrow8.form'; obtain ⟨f8, c8, hS8, hS8'⟩ := HPK2.out _ _ hrow8 hg8)
    refine hK.out _ _ (hS8) (fun hHeld => ?_)
    clear hK K
    refine wpAnyH_take (i := 9) (v := ?_) rfl (by kernel_rfl) (by kernel_rfl) (by kernel_rfl) (fun _ _ _ h => h) (Or.inl ⟨by rfl, ?_⟩) hHeld ?_
    rotate_left
    · intro w hSw; (try dsimp only at hSw); first | (go_simp; done) | (go_simp; with_reducible rfl)
    try simp only [Act.put, List.setIfInBounds_toArray, List.set_cons_zero, List.set_cons_succ, List.getElem_toArray, List.getElem_cons_zero, List.getElem_cons_succ]
    refine wpAnyH_take (i := 10) (v := ?_) rfl (by kernel_rfl) (by kernel_rfl) (by kernel_rfl) (fun _ _ _ h => h) (Or.inl ⟨by rfl, ?_⟩) hHeld ?_
    rotate_left
    · intro w hSw; (try dsimp only at hSw); first | (go_simp; done) | (go_simp; with_reducible rfl)
    try simp only [Act.put, List.setIfInBounds_toArray, List.set_cons_zero, List.set_cons_succ, List.getElem_toArray, List.getElem_cons_zero, List.getElem_cons_succ]
    refine wpAnyH_ready (rs := [11]) (by kernel_rfl) (by simp) ?_
    refine AllReadyH.cons rfl (fun K hK => ?_) AllReadyH.nil
    go_simp
    refine hK.out _ _ (hS8') (fun hHeld => ?_)
    clear hK K
    refine wpAnyH_done (by kernel_rfl) ?_ _
    go_wp2_with fail
    have hE := HR10.out _ _ hrow8 hg8
    simp only [Exit.jump]
    refine bodyPost_ret (results_none rfl _ _ _) rfl ?_
    rw [HX.out]
    exact ⟨rfl, hE.2, _, _, hE.1⟩
    exact AllReadyH.nil
    exact AllReadyH.nil
  · by_cases h47 : bt s k = 47
    · have hlt : k < s.size := by
        by_cases hp : k < s.size
        · exact hp
        · rw [bt_end s (by omega)] at h47; omega
      have hn62 : (bt s k == 62) = false := by simpa using h62
      rw [h47] at hn62
      by_cases h62b : bt s (k + 1) = 62
      · have hx := congrArg (begR nm) (HRE.out.trans (begF_short HK.out h47 h62b))
        have HX := Lib.hid (show begR nm R = .ok (k + 2) (nm, true, l) from hx)
        have HKL := Lib.hid hlt
        have hwy := fun W => want_yes (.pointer (some ⟨rb, 0, none⟩)) W
        clear hx hlt
        go_wp2_with fail
        refine hbl.mono ?_
        rintro e w1 ⟨rfl, hM1⟩
        have hnx := next_any hM1.1 hks
        rw [h47] at hnx
        have HM1 := Lib.hid (HM.out.trans hM1)
        have HT1 := Lib.hid (show Blk w1 w0.heap.size #[Value.int .i64 1, Value.string nm, Value.slice aa an ac, Value.string ⟨#[]⟩, Value.int .i64 (at_ : Int)] from by
          obtain ⟨t, ht⟩ := HT.out
          exact ⟨t, (hM1.2.block _ HTW.out HTR.out).trans ht⟩)
        have HROW1 := Lib.hid (show GRow AtE (w0.heap.size + 1) w1 (.slice aa an ac) l from HROW.out.later (fun g hg => hM1.2.block g (HROW.out.lt g hg) (by have := HROW.out.own g hg; have := HRBW.out; omega)))
        clear hbl hM1
        go_wp2_with fail
        refine hnx.mono ?_
        rintro e w2 ⟨rfl, hB2⟩
        have hM2 := HM1.out.on hB2
        have d1 := hM2.1.cell1
        have d0 := hM2.1.blk.free 1
        have f1 : IntKind.i64.wrap ((k : Int) + 1) = ((k + 1 : Nat) : Int) := by rw [IntWalk.i64_in _ (by omega)]; omega
        have hnx2 := next_any (hM2.set (k + 1)).1 HKL.out
        rw [h62b] at hnx2
        clear hnx
        go_wp2_with fail
        clear d1 d0
        refine hnx2.mono ?_
        rintro e w4 ⟨rfl, hB4⟩
        have hM4 := (hM2.set (k + 1)).on hB4
        have d1 : w4.cell? ⟨rb, 1, none⟩ = some (.int .i64 ((k : Int) + 1)) := hM4.1.cell1
        have d0 := hM4.1.blk.free 1
        have f2 : IntKind.i64.wrap ((k : Int) + 1 + 1) = (k : Int) + 1 + 1 := IntWalk.i64_in _ (by omega)
        go_wp2_with fail
        refine (hwy _).mono ?_
        rintro e w' ⟨rfl, rfl⟩
        clear hnx2
        go_upto_region 15 with fail
        clear d0 d1 f1 f2
        have hR5 : RdS lo rb s (k + 2) ov pv bp tv fr out pile text (w4.setCell ⟨rb, 1, none⟩ (.int .i64 ((k : Int) + 1 + 1))) := HR0.out.moved (hM4.set (k + 2))
        have hK5 : KeepX lo rb ws (w4.setCell ⟨rb, 1, none⟩ (.int .i64 ((k : Int) + 1 + 1))) := HK0.out.trans (HR0.out.keep (hM4.set (k + 2)))
        have hT5 : Blk (w4.setCell ⟨rb, 1, none⟩ (.int .i64 ((k : Int) + 1 + 1))) w0.heap.size #[Value.int .i64 1, Value.string nm, Value.slice aa an ac, Value.string ⟨#[]⟩, Value.int .i64 (at_ : Int)] := (((HT1.out.on hB2).other rb 1 _ HTR.out).on hB4).other rb 1 _ HTR.out
        have hA5 : GRow AtE lo (w4.setCell ⟨rb, 1, none⟩ (.int .i64 ((k : Int) + 1 + 1))) (.slice aa an ac) l := ((((HROW1.out.on hB2).set rb 1 _ (by have := HRBW.out; omega)).on hB4).set rb 1 _ (by have := HRBW.out; omega)).mono (by have := HLO.out; omega)
        generalize w4.setCell ⟨rb, 1, none⟩ (.int .i64 ((k : Int) + 1 + 1)) = W at *
        obtain ⟨ms, hrow0, hms2, hms3⟩ := hR5.out
        obtain ⟨oa, on, oc, hov⟩ := hrow0.form'
        subst hov
        have hrlt := hR5.blk.lt'
        have c2 : W.cell? ⟨rb, 2, none⟩ = some (.slice oa on oc) := hR5.blk.cell 2
        have hR5d := hR5.on (Below.refl _ _).drew
        have hT5d := hT5.on (Below.refl _ _).drew
        have hSD : ∀ o, W.drew.cell? ⟨w0.heap.size, o, none⟩ = #[Value.int .i64 1, Value.string nm, Value.slice aa an ac, Value.string ⟨#[]⟩, Value.int .i64 (at_ : Int)][o]? := hT5d.cell
        have hSA : ∀ o, (W.drew.alloc (.cells #[.int .i64 1, .string nm, .slice aa an ac, .string ⟨#[]⟩, .int .i64 (at_ : Int), .int .i64 2, .string nm, .slice none 0 0, .string ⟨#[]⟩, .int .i64 (at_ : Int)] 27)).cell? ⟨w0.heap.size, o, none⟩ = #[Value.int .i64 1, Value.string nm, Value.slice aa an ac, Value.string ⟨#[]⟩, Value.int .i64 (at_ : Int)][o]? := (hT5d.alloc _).cell
        have hrowA : GRow TkE lo (W.drew.alloc (.cells #[.int .i64 1, .string nm, .slice aa an ac, .string ⟨#[]⟩, .int .i64 (at_ : Int), .int .i64 2, .string nm, .slice none 0 0, .string ⟨#[]⟩, .int .i64 (at_ : Int)] 27)) (.slice oa on oc) ms := (hrow0.on (Below.refl _ _).drew).on ((Below.refl _ _).alloc (Nat.le_refl _) _)
        have hbase : lo ≤ (W.drew.alloc (.cells #[.int .i64 1, .string nm, .slice aa an ac, .string ⟨#[]⟩, .int .i64 (at_ : Int), .int .i64 2, .string nm, .slice none 0 0, .string ⟨#[]⟩, .int .i64 (at_ : Int)] 27)).heap.size := Nat.le_trans hR5d.bld.lo (by simp)
        have hlen : ms.length ≤ 100000000 := by omega
        have hms3d : ∀ j (h : j < ms.length) (h' : j < out.length), TkOk lo W.drew ms[j] out[j] := fun j h h' => (hms3 j h h').later (fun g c _ hc => rfl)
        have htok : ∀ j (h : j < [(⟨1, nm, aa, an, ac, ⟨#[]⟩, at_⟩ : TkM), ⟨2, nm, none, 0, 0, ⟨#[]⟩, at_⟩].length) (h' : j < [(⟨1, nm, l, ⟨#[]⟩, at_⟩ : Tk), ⟨2, nm, [], ⟨#[]⟩, at_⟩].length), TkOk lo W.drew [(⟨1, nm, aa, an, ac, ⟨#[]⟩, at_⟩ : TkM), ⟨2, nm, none, 0, 0, ⟨#[]⟩, at_⟩][j] [(⟨1, nm, l, ⟨#[]⟩, at_⟩ : Tk), ⟨2, nm, [], ⟨#[]⟩, at_⟩][j] := fun j h h' => by
          have hj : j = 0 ∨ j = 1 := by simp at h; omega
          rcases hj with rfl | rfl
          · exact ⟨rfl, rfl, rfl, rfl, hA5.on (Below.refl _ _).drew⟩
          · exact ⟨rfl, rfl, rfl, rfl, GRow.nil _ _ _⟩
        have hpk0 : ∀ v' w6, GRow TkE lo w6 v' (ms ++ [(⟨1, nm, aa, an, ac, ⟨#[]⟩, at_⟩ : TkM), ⟨2, nm, none, 0, 0, ⟨#[]⟩, at_⟩]) → (W.drew.alloc (.cells #[.int .i64 1, .string nm, .slice aa an ac, .string ⟨#[]⟩, .int .i64 (at_ : Int), .int .i64 2, .string nm, .slice none 0 0, .string ⟨#[]⟩, .int .i64 (at_ : Int)] 27)).grownBy w6 (Value.slice oa on oc).ownBlock → w6.frozen? ⟨rb, 2, none⟩ = false ∧ w6.cell? ⟨rb, 2, none⟩ = some (.slice oa on oc) ∧ (∀ o, w6.cell? ⟨w0.heap.size, o, none⟩ = #[Value.int .i64 1, Value.string nm, Value.slice aa an ac, Value.string ⟨#[]⟩, Value.int .i64 (at_ : Int)][o]?) ∧ (∀ o, (w6.setCell ⟨rb, 2, none⟩ v').cell? ⟨w0.heap.size, o, none⟩ = #[Value.int .i64 1, Value.string nm, Value.slice aa an ac, Value.string ⟨#[]⟩, Value.int .i64 (at_ : Int)][o]?) ∧
            RdS lo rb s (k + 2) v' pv bp tv fr (out ++ [(⟨1, nm, l, ⟨#[]⟩, at_⟩ : Tk), ⟨2, nm, [], ⟨#[]⟩, at_⟩]) pile text (w6.setCell ⟨rb, 2, none⟩ v') ∧ KeepX lo rb ws (w6.setCell ⟨rb, 2, none⟩ v') ∧ Blk (w6.setCell ⟨rb, 2, none⟩ v') w0.heap.size #[Value.int .i64 1, Value.string nm, Value.slice aa an ac, Value.string ⟨#[]⟩, Value.int .i64 (at_ : Int)] := fun v' w6 hr hg => by
          obtain ⟨hk, hRn, hKn⟩ := hR5d.told hms2 hms3d rfl htok hr hg
          have hb6 := (hk rb hR5d.blk.lt' (fun e => by have := (hR5d.out.own rb e).1; have := hR5d.rb; omega)).trans hR5d.blk
          have ht6 : Blk w6 w0.heap.size #[Value.int .i64 1, Value.string nm, Value.slice aa an ac, Value.string ⟨#[]⟩, Value.int .i64 (at_ : Int)] := by
            obtain ⟨t, ht⟩ := hT5d
            exact ⟨t, (hk _ (lt_some ht) (fun e => by have := HOV.out _ e; omega)).trans ht⟩
          exact ⟨freeH hb6 2, cellH hb6 2, ht6.cell, (ht6.other rb 2 v' HTR.out).cell, hRn, hK5.trans ((KeepX.of (Below.refl _ _).drew (Nat.le_refl _)).trans hKn), ht6.other rb 2 v' HTR.out⟩
        have HPK := Lib.hid (show ∀ v' w6, GRow TkE lo w6 v' (ms ++ [(⟨1, nm, aa, an, ac, ⟨#[]⟩, at_⟩ : TkM), ⟨2, nm, none, 0, 0, ⟨#[]⟩, at_⟩]) → (W.drew.alloc (.cells #[.int .i64 1, .string nm, .slice aa an ac, .string ⟨#[]⟩, .int .i64 (at_ : Int), .int .i64 2, .string nm, .slice none 0 0, .string ⟨#[]⟩, .int .i64 (at_ : Int)] 27)).grownBy w6 (Value.slice oa on oc).ownBlock → w6.frozen? ⟨rb, 2, none⟩ = false ∧ w6.cell? ⟨rb, 2, none⟩ = some (.slice oa on oc) ∧ (∀ o, w6.cell? ⟨w0.heap.size, o, none⟩ = #[Value.int .i64 1, Value.string nm, Value.slice aa an ac, Value.string ⟨#[]⟩, Value.int .i64 (at_ : Int)][o]?) ∧ (∀ o, (w6.setCell ⟨rb, 2, none⟩ v').cell? ⟨w0.heap.size, o, none⟩ = #[Value.int .i64 1, Value.string nm, Value.slice aa an ac, Value.string ⟨#[]⟩, Value.int .i64 (at_ : Int)][o]?) from fun v' w6 hr hg => ⟨(hpk0 v' w6 hr hg).1, (hpk0 v' w6 hr hg).2.1, (hpk0 v' w6 hr hg).2.2.1, (hpk0 v' w6 hr hg).2.2.2.1⟩)
        have HR9 := Lib.hid (fun v' w6 hr hg => (hpk0 v' w6 hr hg).2.2.2.2)
        have HSD := Lib.hid hSD; have HSA := Lib.hid hSA; have HROWA := Lib.hid hrowA
        clear hpk0 hR5 hR5d hT5 hT5d hK5 hA5 hSD hSA hrowA hms3 hms3d htok hrow0 hM2 hM4 hB2 hB4 hms2
        refine wp_region_held_drew (S := fun w' => ∀ o, w'.cell? ⟨w0.heap.size, o, none⟩ = #[Value.int .i64 1, Value.string nm, Value.slice aa an ac, Value.string ⟨#[]⟩, Value.int .i64 (at_ : Int)][o]?) (by kernel_rfl) (HSD.out) (fun hHeld => ?_)
        refine wpAnyH_take (i := 0) (v := ?_) rfl (by kernel_rfl) (by kernel_rfl) (by kernel_rfl) (fun _ _ _ h => h) (Or.inl ⟨by rfl, ?_⟩) hHeld ?_
        rotate_left
        · intro w hSw; (try dsimp only at hSw); first | (go_simp; done) | (go_simp; with_reducible rfl)
        try simp only [Act.put, List.setIfInBounds_toArray, List.set_cons_zero, List.set_cons_succ, List.getElem_toArray, List.getElem_cons_zero]
        refine wpAnyH_take (i := 1) (v := ?_) rfl (by kernel_rfl) (by kernel_rfl) (by kernel_rfl) (fun _ _ _ h => h) (Or.inl ⟨by rfl, ?_⟩) hHeld ?_
        rotate_left
        · intro w hSw; (try dsimp only at hSw); first | (go_simp; done) | (go_simp; with_reducible rfl)
        try simp only [Act.put, List.setIfInBounds_toArray, List.set_cons_zero, List.set_cons_succ, List.getElem_toArray, List.getElem_cons_zero, List.getElem_cons_succ]
        refine wpAnyH_take (i := 2) (v := ?_) rfl (by kernel_rfl) (by kernel_rfl) (by kernel_rfl) (fun _ _ _ h => h) (Or.inl ⟨by rfl, ?_⟩) hHeld ?_
        rotate_left
        · intro w hSw; (try dsimp only at hSw); first | (go_simp; done) | (go_simp; with_reducible rfl)
        try simp only [Act.put, List.setIfInBounds_toArray, List.set_cons_zero, List.set_cons_succ, List.getElem_toArray, List.getElem_cons_zero, List.getElem_cons_succ]
        refine wpAnyH_take (i := 3) (v := ?_) rfl (by kernel_rfl) (by kernel_rfl) (by kernel_rfl) (fun _ _ _ h => h) (Or.inl ⟨by rfl, ?_⟩) hHeld ?_
        rotate_left
        · intro w hSw; (try dsimp only at hSw); first | (go_simp; done) | (go_simp; with_reducible rfl)
        try simp only [Act.put, List.setIfInBounds_toArray, List.set_cons_zero, List.set_cons_succ, List.getElem_toArray, List.getElem_cons_zero, List.getElem_cons_succ]
        refine wpAnyH_take (i := 5) (v := ?_) rfl (by kernel_rfl) (by kernel_rfl) (by kernel_rfl) (fun _ _ _ h => h) (Or.inl ⟨by rfl, ?_⟩) hHeld ?_
        rotate_left
        · intro w hSw; (try dsimp only at hSw); first | (go_simp; done) | (go_simp; with_reducible rfl)
        try simp only [Act.put, List.setIfInBounds_toArray, List.set_cons_zero, List.set_cons_succ, List.getElem_toArray, List.getElem_cons_zero, List.getElem_cons_succ]
        refine wpAnyH_take (i := 6) (v := ?_) rfl (by kernel_rfl) (by kernel_rfl) (by kernel_rfl) (fun _ _ _ h => h) (Or.inl ⟨by rfl, ?_⟩) hHeld ?_
        rotate_left
        · intro w hSw; (try dsimp only at hSw); first | (go_simp; done) | (go_simp; with_reducible rfl)
        try simp only [Act.put, List.setIfInBounds_toArray, List.set_cons_zero, List.set_cons_succ, List.getElem_toArray, List.getElem_cons_zero, List.getElem_cons_succ]
        refine wpAnyH_take (i := 7) (v := ?_) rfl (by kernel_rfl) (by kernel_rfl) (by kernel_rfl) (fun _ _ _ h => h) (Or.inl ⟨by rfl, ?_⟩) hHeld ?_
        rotate_left
        · intro w hSw; (try dsimp only at hSw); first | (go_simp; done) | (go_simp; with_reducible rfl)
        try simp only [Act.put, List.setIfInBounds_toArray, List.set_cons_zero, List.set_cons_succ, List.getElem_toArray, List.getElem_cons_zero, List.getElem_cons_succ]
        refine wpAnyH_take (i := 8) (v := ?_) rfl (by kernel_rfl) (by kernel_rfl) (by kernel_rfl) (fun _ _ _ h => h) (Or.inl ⟨by rfl, ?_⟩) hHeld ?_
        rotate_left
        · intro w hSw; (try dsimp only at hSw); first | (go_simp; done) | (go_simp; with_reducible rfl)
        try simp only [Act.put, List.setIfInBounds_toArray, List.set_cons_zero, List.set_cons_succ, List.getElem_toArray, List.getElem_cons_zero, List.getElem_cons_succ]
        refine wpAnyH_take (i := 9) (v := ?_) rfl (by kernel_rfl) (by kernel_rfl) (by kernel_rfl) (fun _ _ _ h => h) (Or.inl ⟨by rfl, ?_⟩) hHeld ?_
        rotate_left
        · intro w hSw; (try dsimp only at hSw); first | (go_simp; done) | (go_simp; with_reducible rfl)
        try simp only [Act.put, List.setIfInBounds_toArray, List.set_cons_zero, List.set_cons_succ, List.getElem_toArray, List.getElem_cons_zero, List.getElem_cons_succ]
        refine wpAnyH_take (i := 10) (v := ?_) rfl (by kernel_rfl) (by kernel_rfl) (by kernel_rfl) (fun _ _ _ h => h) (Or.inl ⟨by rfl, ?_⟩) hHeld ?_
        rotate_left
        · intro w hSw; (try dsimp only at hSw); first | (go_simp; done) | (go_simp; with_reducible rfl)
        try simp only [Act.put, List.setIfInBounds_toArray, List.set_cons_zero, List.set_cons_succ, List.getElem_toArray, List.getElem_cons_zero, List.getElem_cons_succ]
        refine wpAnyH_ready (rs := [4, 11]) (by kernel_rfl) (by simp) ?_
        refine AllReadyH.cons rfl (fun K hK => ?_) ?_
        go_simp
        refine hK.out _ _ (HSD.out) (fun hHeld => ?_)
        clear hK K
        refine wpAnyH_ready (rs := [11]) (by kernel_rfl) (by simp) ?_
        refine AllReadyH.cons rfl (fun K hK => ?_) AllReadyH.nil
        go_simp
        refine hK.out _ _ (HSA.out) (fun hHeld => ?_)
        clear hK K
        refine wpAnyH_ready (rs := [12]) (by kernel_rfl) (by simp) ?_
        refine AllReadyH.cons rfl (fun K hK => ?_) AllReadyH.nil
        (refine step_more_g TkE (xs := [(⟨1, nm, aa, an, ac, ⟨#[]⟩, at_⟩ : TkM), ⟨2, nm, none, 0, 0, ⟨#[]⟩, at_⟩]) rfl _ _ rfl lo (.slice oa on oc) ms rfl HROWA.out 2 _ rfl (Blk.new _ _ _) hlen (by show 2 ≤ 1000; decide) hbase ?_; intro v' w6 hrow6 hg6; obtain ⟨a', n', c', rfl⟩ := hrow6.form'; obtain ⟨f6, c6, hS6, hS6'⟩ := HPK.out _ _ hrow6 hg6)
        refine hK.out _ _ (hS6) (fun hHeld => ?_)
        clear hK K
        refine wpAnyH_take (i := 13) (v := ?_) rfl (by kernel_rfl) (by kernel_rfl) (by kernel_rfl) (fun _ _ _ h => h) (Or.inl ⟨by rfl, ?_⟩) hHeld ?_
        rotate_left
        · intro w hSw; (try dsimp only at hSw); first | (go_simp; done) | (go_simp; with_reducible rfl)
        try simp only [Act.put, List.setIfInBounds_toArray, List.set_cons_zero, List.set_cons_succ, List.getElem_toArray, List.getElem_cons_zero, List.getElem_cons_succ]
        refine wpAnyH_take (i := 14) (v := ?_) rfl (by kernel_rfl) (by kernel_rfl) (by kernel_rfl) (fun _ _ _ h => h) (Or.inl ⟨by rfl, ?_⟩) hHeld ?_
        rotate_left
        · intro w hSw; (try dsimp only at hSw); first | (go_simp; done) | (go_simp; with_reducible rfl)
        try simp only [Act.put, List.setIfInBounds_toArray, List.set_cons_zero, List.set_cons_succ, List.getElem_toArray, List.getElem_cons_zero, List.getElem_cons_succ]
        refine wpAnyH_ready (rs := [15]) (by kernel_rfl) (by simp) ?_
        refine AllReadyH.cons rfl (fun K hK => ?_) AllReadyH.nil
        go_simp
        refine hK.out _ _ (hS6') (fun hHeld => ?_)
        clear hK K
        refine wpAnyH_done (by kernel_rfl) ?_ _
        go_wp2_with fail
        have hE := HR9.out _ _ hrow6 hg6
        simp only [Exit.jump]
        refine bodyPost_ret (results_none rfl _ _ _) rfl ?_
        rw [HX.out]
        exact ⟨rfl, hE.2.1, _, _, hE.1⟩
        refine AllReadyH.cons rfl (fun K hK => ?_) ?_
        go_simp
        refine hK.out _ _ (HSA.out) (fun hHeld => ?_)
        clear hK K
        refine wpAnyH_ready (rs := [4]) (by kernel_rfl) (by simp) ?_
        refine AllReadyH.cons rfl (fun K hK => ?_) AllReadyH.nil
        go_simp
        refine hK.out _ _ (HSA.out) (fun hHeld => ?_)
        clear hK K
        refine wpAnyH_ready (rs := [12]) (by kernel_rfl) (by simp) ?_
        refine AllReadyH.cons rfl (fun K hK => ?_) AllReadyH.nil
        (refine step_more_g TkE (xs := [(⟨1, nm, aa, an, ac, ⟨#[]⟩, at_⟩ : TkM), ⟨2, nm, none, 0, 0, ⟨#[]⟩, at_⟩]) rfl _ _ rfl lo (.slice oa on oc) ms rfl HROWA.out 2 _ rfl (Blk.new _ _ _) hlen (by show 2 ≤ 1000; decide) hbase ?_; intro v' w6 hrow6 hg6; obtain ⟨a', n', c', rfl⟩ := hrow6.form'; obtain ⟨f6, c6, hS6, hS6'⟩ := HPK.out _ _ hrow6 hg6)
        refine hK.out _ _ (hS6) (fun hHeld => ?_)
        clear hK K
        refine wpAnyH_take (i := 13) (v := ?_) rfl (by kernel_rfl) (by kernel_rfl) (by kernel_rfl) (fun _ _ _ h => h) (Or.inl ⟨by rfl, ?_⟩) hHeld ?_
        rotate_left
        · intro w hSw; (try dsimp only at hSw); first | (go_simp; done) | (go_simp; with_reducible rfl)
        try simp only [Act.put, List.setIfInBounds_toArray, List.set_cons_zero, List.set_cons_succ, List.getElem_toArray, List.getElem_cons_zero, List.getElem_cons_succ]
        refine wpAnyH_take (i := 14) (v := ?_) rfl (by kernel_rfl) (by kernel_rfl) (by kernel_rfl) (fun _ _ _ h => h) (Or.inl ⟨by rfl, ?_⟩) hHeld ?_
        rotate_left
        · intro w hSw; (try dsimp only at hSw); first | (go_simp; done) | (go_simp; with_reducible rfl)
        try simp only [Act.put, List.setIfInBounds_toArray, List.set_cons_zero, List.set_cons_succ, List.getElem_toArray, List.getElem_cons_zero, List.getElem_cons_succ]
        refine wpAnyH_ready (rs := [15]) (by kernel_rfl) (by simp) ?_
        refine AllReadyH.cons rfl (fun K hK => ?_) AllReadyH.nil
        go_simp
        refine hK.out _ _ (hS6') (fun hHeld => ?_)
        clear hK K
        refine wpAnyH_done (by kernel_rfl) ?_ _
        go_wp2_with fail
        have hE := HR9.out _ _ hrow6 hg6
        simp only [Exit.jump]
        refine bodyPost_ret (results_none rfl _ _ _) rfl ?_
        rw [HX.out]
        exact ⟨rfl, hE.2.1, _, _, hE.1⟩
        exact AllReadyH.nil
      · have hx := congrArg (begR nm) (HRE.out.trans (begF_sbad HK.out h47 h62b))
        have HX := Lib.hid (show begR nm R = .bad 140 (k + 1) from hx)
        have hn62b : (bt s (k + 1) == 62) = false := by simpa using h62b
        have HKL := Lib.hid hlt
        clear hx hlt
        go_wp2_with fail
        refine hbl.mono ?_
        rintro e w1 ⟨rfl, hM1⟩
        have hnx := next_any hM1.1 hks
        rw [h47] at hnx
        have HM1 := Lib.hid (HM.out.trans hM1)
        clear hbl hM1
        go_wp2_with fail
        refine hnx.mono ?_
        rintro e w2 ⟨rfl, hB2⟩
        have hM2 := HM1.out.on hB2
        have d1 := hM2.1.cell1
        have d0 := hM2.1.blk.free 1
        have f1 : IntKind.i64.wrap ((k : Int) + 1) = ((k + 1 : Nat) : Int) := by rw [IntWalk.i64_in _ (by omega)]; omega
        have hnx2 := next_any (hM2.set (k + 1)).1 HKL.out
        clear hnx
        go_wp2_with fail
        refine hnx2.mono ?_
        rintro e w4 ⟨rfl, hB4⟩
        have hM4 := (hM2.set (k + 1)).on hB4
        have hwn := want_no hM4.1
        have HKP := Lib.hid (HK0.out.trans (HR0.out.keep hM4))
        clear hM4 hM2 hB2 hB4 d1 d0 hnx2
        go_wp2_with fail
        refine hwn.mono ?_
        rintro e w' ⟨rfl, rfl⟩
        go_wp2_with fail
        simp only [Exit.jump]
        refine ⟨rfl, ?_⟩
        rw [HX.out]
        exact ⟨rfl, HKP.out⟩
    · have hn62 : (bt s k == 62) = false := by simpa using h62
      have hn47 : (bt s k == 47) = false := by simpa using h47
      by_cases hkp : k = p
      · have hx := congrArg (begR nm) (HRE.out.trans (begF_nob HK.out h62 h47 hkp))
        have HX := Lib.hid (show begR nm R = .bad 140 k from hx)
        rw [decide_eq_false (show ¬ p < k by omega)] at hbl
        clear hx hkp
        go_wp2_with fail
        refine hbl.mono ?_
        rintro e w1 ⟨rfl, hM1⟩
        have hnx := next_any hM1.1 hks
        have HM1 := Lib.hid (HM.out.trans hM1)
        clear hbl hM1
        go_wp2_with fail
        refine hnx.mono ?_
        rintro e w2 ⟨rfl, hB2⟩
        have hM2 := HM1.out.on hB2
        have hwn := want_no hM2.1
        have HKP := Lib.hid (HK0.out.trans (HR0.out.keep hM2))
        clear hM2 hB2 hnx
        go_wp2_with fail
        refine hwn.mono ?_
        rintro e w' ⟨rfl, rfl⟩
        go_wp2_with fail
        simp only [Exit.jump]
        refine ⟨rfl, ?_⟩
        rw [HX.out]
        exact ⟨rfl, HKP.out⟩
      · have hx := congrArg (begR nm) (HRE.out.trans (begF_attr HK.out h62 h47 hkp))
        have hre2 := HRE.out.trans (begF_attr HK.out h62 h47 hkp)
        have HX := Lib.hid hx; have HRE2 := Lib.hid hre2; have HKP := Lib.hid hkp; have HPK := Lib.hid hpk
        have hwy := fun W => want_yes (.pointer (some ⟨rb, 0, none⟩)) W
        rw [decide_eq_true (show p < k by omega)] at hbl
        clear hx hre2 hkp hpk
        go_wp2_with fail
        refine hbl.mono ?_
        rintro e w1 ⟨rfl, hM1⟩
        have hnx := next_any hM1.1 hks
        have HM1 := Lib.hid (HM.out.trans hM1)
        have HT1 := Lib.hid (show Blk w1 w0.heap.size #[Value.int .i64 1, Value.string nm, Value.slice aa an ac, Value.string ⟨#[]⟩, Value.int .i64 (at_ : Int)] from by
          obtain ⟨t, ht⟩ := HT.out
          exact ⟨t, (hM1.2.block _ HTW.out HTR.out).trans ht⟩)
        have HROW1 := Lib.hid (show GRow AtE (w0.heap.size + 1) w1 (.slice aa an ac) l from HROW.out.later (fun g hg => hM1.2.block g (HROW.out.lt g hg) (by have := HROW.out.own g hg; have := HRBW.out; omega)))
        clear hbl hM1
        go_wp2_with fail
        refine hnx.mono ?_
        rintro e w2 ⟨rfl, hB2⟩
        have hM2 := HM1.out.on hB2
        have hT2 := HT1.out.on hB2
        have c2 : w2.cell? ⟨w0.heap.size, 2, none⟩ = some (.slice aa an ac) := hT2.cell 2
        have hrow2 := HROW1.out.on hB2
        have htw2 : w0.heap.size + 1 ≤ w2.heap.size := by have := hT2.lt; omega
        have hat := attr_any hM2.1 hks hz (fun W hW => HG.out W ((HR0.out.keep hM2).trans (hW.mono (Nat.le_trans HLO.out hM2.2.size)))) (.slice aa an ac) l hrow2 htw2 (by have := HRBW.out; omega) hll
        have HM2 := Lib.hid hM2; have HT2 := Lib.hid hT2; have HROW2 := Lib.hid hrow2
        clear hM2 hT2 hrow2 hnx hB2
        go_wp2_with fail
        refine (hwy _).mono ?_
        rintro e w' ⟨rfl, rfl⟩
        go_wp2_with fail
        refine hat.mono ?_
        intro e w4 hE
        cases hax : attrX s k l with
        | bad ee aa =>
          rw [hax] at hE
          obtain ⟨rfl, hK⟩ := hE
          have hx := HX.out
          rw [hax] at hx
          have HXX := Lib.hid (show begR nm R = .bad ee aa from hx)
          clear hx hax
          go_wp2_with fail
          simp only [Exit.jump]
          refine ⟨rfl, ?_⟩
          rw [HXX.out]
          exact ⟨rfl, HK0.out.trans ((HR0.out.keep HM2.out).trans (hK.mono (Nat.le_trans HLO.out HM2.out.2.size)))⟩
        | ok q2 av =>
          rw [hax] at hE
          obtain ⟨v', rfl, hRd, hrow4, hkb⟩ := hE
          obtain ⟨hq1, hq2, hq3⟩ := attrX_in hax hks
          have hre := HRE2.out
          rw [hax] at hre
          have HRX := Lib.hid hre
          obtain ⟨aa', an', ac', rfl⟩ := hrow4.form'
          have hT4 : Blk w4 w0.heap.size #[Value.int .i64 1, Value.string nm, Value.slice aa an ac, Value.string ⟨#[]⟩, Value.int .i64 (at_ : Int)] := by
            obtain ⟨t, ht⟩ := HT2.out
            exact ⟨t, (hkb.block _ (lt_some ht) HTR.out (fun e => by have := HROW2.out.own _ e; omega)).trans ht⟩
          have d0 := hT4.free 2
          have d1 : w4.cell? ⟨w0.heap.size, 2, none⟩ = some (.slice aa an ac) := hT4.cell 2
          have hM4 : Moved rb s #[.string s, .int .i64 (at0 : Int), ov, pv, bp, tv, .int .i64 fr] w0 q2 w4 := by
            have h1 := hRd
            rw [set_twice] at h1
            refine ⟨h1, HM2.out.2.trans ⟨hkb.os, hkb.tape, hkb.output, hkb.size, fun g hg hx => hkb.block g (Nat.lt_of_lt_of_le hg HM2.out.2.size) hx (fun e => by have := HROW2.out.own _ e; omega)⟩⟩
          have HT4 := Lib.hid hT4; have HM4 := Lib.hid hM4; have HROW4 := Lib.hid hrow4; have HQ1 := Lib.hid hq1; have HQ3 := Lib.hid hq3
          clear hre hax hRd hrow4 hkb hT4 hM4 hat hq1 hq3
          go_wp2_with fail
          have hM5 : Moved rb s #[.string s, .int .i64 (at0 : Int), ov, pv, bp, tv, .int .i64 fr] w0 q2 (w4.setCell ⟨w0.heap.size, 2, none⟩ (.slice aa' an' ac')) := by
            have h4 := HM4.out
            have hrb5 : (w4.setCell ⟨w0.heap.size, 2, none⟩ (.slice aa' an' ac')).heap[rb]? = w4.heap[rb]? := Below.heap_setCell _ _ _ _ (fun e => HTR.out e.symm)
            refine ⟨⟨hrb5.trans h4.1.blk, h4.1.c0, h4.1.c1⟩, h4.2.trans ⟨rfl, rfl, rfl, by simp [World.setCell], fun g hg _ => Below.heap_setCell _ _ _ _ (by simp; omega)⟩⟩
          refine wp_goto ⟨rfl, HJ.out _ _ ⟨q2, l ++ [av], aa', an', ac', fu, rfl, rfl, rfl, rfl, hM5, HT4.out.set 2 _, HROW4.out.later (fun g hg => Below.heap_setCell _ _ _ _ (by have := HROW4.out.own g hg; simp; omega)), hq2, by have := HFU.out; have := HQ1.out; have := HPK.out; omega, by rw [List.length_append, List.length_singleton]; have := HQ3.out; omega, by have := HT4.out.lt; simpa [World.setCell] using this, HRX.out⟩ ?_⟩
          have e1 : ∀ A : Act, BM rb s A (w4.setCell ⟨w0.heap.size, 2, none⟩ (.slice aa' an' ac')) = s.size - q2 := fun A => BM_at hM5.1
          rw [e1, HBM.out]
          have := HQ1.out; have := HPK.out; have := HKP.out; omega
end
end Go.Proofs.YtdipbfchlopeaaaGreatDoor
