/-
  The reader as a whole: what it has told, which elements are open, its text.
-/
import Derived.Test.YtnmpbphnfiiafaaGreatDoorXmK
import Derived.WalkSmall
namespace Go.Proofs.YtnmpbphnfiiafaaGreatDoor
open Go.RowKit Go.PlainAid

/-- Texts in memory. -/
def StrE : ETy ByteArray where
  T := 9
  ST := 52
  sz := 1
  bs := 16
  z := .string ⟨#[]⟩
  enc := fun b => [.string b]
  hsz := by decide
  hbs := by decide
  hlen := fun _ => rfl
  hz := rfl
  info := by kernel_rfl
  und := Tryz.underlying52
  hone := fun _ => by simp [Value.oneCell']
/-- Attributes in memory. -/
def AtE : ETy At2 where
  T := 47
  ST := 43
  sz := 2
  bs := 32
  z := .agg #[.string ⟨#[]⟩, .string ⟨#[]⟩]
  enc := fun a => [.string a.1, .string a.2]
  hsz := by decide
  hbs := by decide
  hlen := fun _ => rfl
  hz := rfl
  info := by kernel_rfl
  und := Tryz.underlying43
  hone := fun _ => by simp [Value.oneCell']
/-- A token as it lies in memory: its attributes are a slice. -/
structure TkM where
  kind : Int
  name : ByteArray
  aa : Option Addr
  an : Nat
  ac : Nat
  text : ByteArray
  at_ : Nat
def TkE : ETy TkM where
  T := 45
  ST := 23
  sz := 5
  bs := 72
  z := .agg #[.int .i64 0, .string ⟨#[]⟩, .slice none 0 0, .string ⟨#[]⟩, .int .i64 0]
  enc := fun m => [.int .i64 m.kind, .string m.name, .slice m.aa m.an m.ac, .string m.text, .int .i64 (m.at_ : Int)]
  hsz := by decide
  hbs := by decide
  hlen := fun _ => rfl
  hz := rfl
  info := by kernel_rfl
  und := Tryz.underlying23
  hone := fun _ => by simp [Value.oneCell']
/-- What lies in memory is this token. -/
structure TkOk (lo : Nat) (w : World) (m : TkM) (t : Tk) : Prop where
  kind : m.kind = t.kind
  name : m.name = t.name
  text : m.text = t.text
  at_ : m.at_ = t.at_
  attrs : GRow AtE lo w (.slice m.aa m.an m.ac) t.attrs
/-- A row of tokens of the reader's own. -/
def OutAt (lo : Nat) (w : World) (v : Value) (out : List Tk) : Prop :=
  ∃ ms : List TkM, GRow TkE lo w v ms ∧ ms.length = out.length ∧ ∀ j (h : j < ms.length) (h' : j < out.length), TkOk lo w ms[j] out[j]
theorem TkOk.later {lo : Nat} {w w' : World} {m : TkM} {t : Tk} (h : TkOk lo w m t) (hb : ∀ g c, lo ≤ g → w.heap[g]? = some (.cells c 47 (0, 0)) → w'.heap[g]? = w.heap[g]?) : TkOk lo w' m t :=
  ⟨h.kind, h.name, h.text, h.at_, h.attrs.later fun g hg => by
    obtain ⟨c, hc⟩ := h.attrs.kind g hg
    exact hb g c (h.attrs.own g hg) hc⟩
theorem OutAt.later {lo : Nat} {w w' : World} {v : Value} {out : List Tk} (h : OutAt lo w v out) (hv : ∀ g, v.ownBlock = some g → w'.heap[g]? = w.heap[g]?) (hb : ∀ g c, lo ≤ g → w.heap[g]? = some (.cells c 47 (0, 0)) → w'.heap[g]? = w.heap[g]?) : OutAt lo w' v out := by
  obtain ⟨ms, h1, h2, h3⟩ := h
  exact ⟨ms, h1.later hv, h2, fun j hj hj' => (h3 j hj hj').later hb⟩
theorem OutAt.own {lo : Nat} {w : World} {v : Value} {out : List Tk} (h : OutAt lo w v out) : ∀ g, v.ownBlock = some g → lo ≤ g ∧ ∃ c, w.heap[g]? = some (.cells c 45 (0, 0)) := by
  obtain ⟨ms, h1, _⟩ := h
  exact fun g hg => ⟨h1.own g hg, h1.kind g hg⟩
/-- The reader as a whole. -/
structure RdS (lo rb : Nat) (s : ByteArray) (at_ : Nat) (ov pv bp tv : Value) (fr : Int) (out : List Tk) (pile : List ByteArray) (text : List UInt8) (w : World) : Prop where
  bld : Bld lo rb 4 72 #[.string s, .int .i64 (at_ : Int), ov, pv, bp, tv, .int .i64 fr] tv text w
  out : OutAt lo w ov out
  pile : GRow StrE lo w pv pile
  rb : rb < lo
section
variable {lo rb pg n pc : Nat} {s : ByteArray} {at_ : Nat} {ov pv bp tv : Value} {fr : Int} {out : List Tk} {pile : List ByteArray} {text : List UInt8} {w : World}
theorem RdS.blk (h : RdS lo rb s at_ ov pv bp tv fr out pile text w) : BlkR w rb #[.string s, .int .i64 (at_ : Int), ov, pv, bp, tv, .int .i64 fr] := h.bld.blk
theorem RdS.rdr (h : RdS lo rb s at_ ov pv bp tv fr out pile text w) : Rdr rb s at_ #[.string s, .int .i64 (at_ : Int), ov, pv, bp, tv, .int .i64 fr] w := ⟨h.blk, rfl, rfl⟩
/-- Some cells of the reader's block are turned, else all stays. -/
theorem RdS.later (h : RdS lo rb s at_ ov pv bp tv fr out pile text w) {w' : World} {q : Nat} {fr' : Int} (hr : w'.heap[rb]? = some (.cells #[.string s, .int .i64 (q : Int), ov, pv, bp, tv, .int .i64 fr'] 72 (0, 0)))
    (hb : ∀ k, k < w.heap.size → k ≠ rb → w'.heap[k]? = w.heap[k]?) (hz : w.heap.size ≤ w'.heap.size) : RdS lo rb s q ov pv bp tv fr' out pile text w' := by
  have hrb := h.rb
  have hown := h.out.own
  refine ⟨⟨hr, h.bld.p, rfl, ownsRow_later h.bld.row (fun g hg => hb g (h.bld.own_lt hg).2 (fun e => by have := (h.bld.own_lt hg).1; omega)), h.bld.ne, h.bld.lies, Nat.le_trans h.bld.lo hz⟩, h.out.later (fun g hg => ?_) (fun g c hg hc => hb g (lt_some hc) (by omega)), h.pile.later (fun g hg => hb g (h.pile.lt g hg) (by have := h.pile.own g hg; omega)), hrb⟩
  obtain ⟨h1, c, h2⟩ := hown g hg
  exact hb g (lt_some h2) (by omega)
theorem RdS.moved (h : RdS lo rb s at_ ov pv bp tv fr out pile text w) {w' : World} {q : Nat} (hM : Moved rb s #[.string s, .int .i64 (at_ : Int), ov, pv, bp, tv, .int .i64 fr] w q w') : RdS lo rb s q ov pv bp tv fr out pile text w' :=
  h.later hM.1.blk hM.2.block hM.2.size
theorem RdS.on (h : RdS lo rb s at_ ov pv bp tv fr out pile text w) {w' : World} (hB : Below w.heap.size w w') : RdS lo rb s at_ ov pv bp tv fr out pile text w' :=
  h.later ((hB.block rb h.blk.lt').trans h.blk) (fun k hk _ => hB.block k hk) hB.size
theorem RdS.set1 (h : RdS lo rb s at_ ov pv bp tv fr out pile text w) (q : Nat) : RdS lo rb s q ov pv bp tv fr out pile text (w.setCell ⟨rb, 1, none⟩ (.int .i64 (q : Int))) :=
  h.later (h.blk.set 1 _) (fun k _ hx => Below.heap_setCell _ _ _ _ hx) (by simp [World.setCell])
theorem RdS.set6 (h : RdS lo rb s at_ ov pv bp tv fr out pile text w) (q : Int) : RdS lo rb s at_ ov pv bp tv q out pile text (w.setCell ⟨rb, 6, none⟩ (.int .i64 q)) :=
  h.later (h.blk.set 6 _) (fun k _ hx => Below.heap_setCell _ _ _ _ hx) (by simp [World.setCell])
theorem RdS.keep (h : RdS lo rb s at_ ov pv bp tv fr out pile text w) {w' : World} {q : Nat} (hM : Moved rb s #[.string s, .int .i64 (at_ : Int), ov, pv, bp, tv, .int .i64 fr] w q w') : KeepX lo rb w w' := hM.2.mono h.bld.lo
theorem kinds_ne {k : Nat} {c c' : Array Value} {T T' : TypeId} (h : w.heap[k]? = some (.cells c T (0, 0))) (h' : w.heap[k]? = some (.cells c' T' (0, 0))) (hT : T ≠ T') : False := by
  rw [h] at h'
  injection h' with h'
  injection h' with _ h'
  exact hT h'
theorem Bld.kind {lo b o : Nat} {T : TypeId} {cs : Array Value} {v : Value} {bs : List UInt8} {w : World} (h : Bld lo b o T cs v bs w) {g : Nat} (hg : v.ownBlock = some g) : ∃ c, w.heap[g]? = some (.cells c 5 (0, 0)) := by
  rcases h.row.2 with ⟨rfl, _⟩ | ⟨g', cap, cur, rfl, _, hh, _⟩
  · simp [Value.ownBlock] at hg
  · simp [Value.ownBlock] at hg
    subst hg
    exact ⟨cur, hh⟩
/-- Tokens are told. -/
theorem RdS.told (h : RdS lo rb s at_ ov pv bp tv fr out pile text w) {ms xs : List TkM} {ts : List Tk} (h2 : ms.length = out.length) (h3 : ∀ j (h : j < ms.length) (h' : j < out.length), TkOk lo w ms[j] out[j]) (h4 : xs.length = ts.length) (h5 : ∀ j (h : j < xs.length) (h' : j < ts.length), TkOk lo w xs[j] ts[j]) {o : Obj} {v' : Value} {w6 : World} (hrow : GRow TkE lo w6 v' (ms ++ xs)) (hg : (w.alloc o).grownBy w6 ov.ownBlock) :
    (∀ k, k < w.heap.size → ov.ownBlock ≠ some k → w6.heap[k]? = w.heap[k]?) ∧ RdS lo rb s at_ v' pv bp tv fr (out ++ ts) pile text (w6.setCell ⟨rb, 2, none⟩ v') ∧ KeepX lo rb w (w6.setCell ⟨rb, 2, none⟩ v') := by
  have hrb := h.rb
  have hown := h.out.own
  have hz0 : w.heap.size ≤ (w.alloc o).heap.size := by simp
  have hz : w.heap.size ≤ w6.heap.size := Nat.le_trans hz0 hg.size
  have key : ∀ k, k < w.heap.size → ov.ownBlock ≠ some k → w6.heap[k]? = w.heap[k]? := fun k hk hn =>
    (hg.block k (by simp; omega) (fun e => hn e.symm)).trans (Lib.alloc_old w _ k hk)
  have hne : ov.ownBlock ≠ some rb := fun e => by have := (hown rb e).1; omega
  have hb6 := (key rb h.blk.lt' hne).trans h.blk
  have hset : ∀ k, k ≠ rb → (w6.setCell ⟨rb, 2, none⟩ v').heap[k]? = w6.heap[k]? := fun k hk => Below.heap_setCell _ _ _ _ hk
  have hkey : ∀ k, k < w.heap.size → k ≠ rb → ov.ownBlock ≠ some k → (w6.setCell ⟨rb, 2, none⟩ v').heap[k]? = w.heap[k]? := fun k hk hx hn => (hset k hx).trans (key k hk hn)
  have hzs : (w6.setCell ⟨rb, 2, none⟩ v').heap.size = w6.heap.size := by simp [World.setCell]
  have hat : ∀ g c, lo ≤ g → w.heap[g]? = some (.cells c 47 (0, 0)) → (w6.setCell ⟨rb, 2, none⟩ v').heap[g]? = w.heap[g]? := fun g c hg hc => hkey g (lt_some hc) (by omega) (fun e => by
    obtain ⟨c', hc'⟩ := (hown g e).2
    exact kinds_ne hc hc' (by decide))
  refine ⟨key, ⟨⟨setH hb6 2 v', h.bld.p, rfl, ownsRow_later h.bld.row (fun g hv => hkey g (h.bld.own_lt hv).2 (by have := (h.bld.own_lt hv).1; omega) (fun e => ?_)), h.bld.ne, h.bld.lies, ?_⟩, ⟨ms ++ xs, hrow.set rb 2 _ hrb, by rw [List.length_append, List.length_append, h2, h4], fun j hj hj' => ?_⟩, h.pile.later (fun g hv => hkey g (h.pile.lt g hv) (by have := h.pile.own g hv; omega) (fun e => ?_)), hrb⟩, ⟨hg.os, hg.tape, hg.output, by rw [hzs]; exact hz, fun k hk hx => hkey k (Nat.lt_of_lt_of_le hk h.bld.lo) hx (fun e => by have := (hown k e).1; omega)⟩⟩
  · obtain ⟨c, hc⟩ := h.bld.kind hv
    obtain ⟨c', hc'⟩ := (hown g e).2
    exact kinds_ne hc hc' (by decide)
  · rw [hzs]; exact Nat.le_trans h.bld.lo hz
  · by_cases hlt : j < ms.length
    · rw [List.getElem_append_left hlt, List.getElem_append_left (by omega)]
      exact (h3 j hlt (by omega)).later hat
    · rw [List.getElem_append_right (by omega), List.getElem_append_right (by omega)]
      have e : j - ms.length = j - out.length := by omega
      simp only [e]
      rw [List.length_append] at hj hj'
      exact (h5 (j - out.length) (by omega) (by omega)).later hat
  · obtain ⟨c, hc⟩ := h.pile.kind g hv
    obtain ⟨c', hc'⟩ := (hown g e).2
    exact kinds_ne hc hc' (by decide)
/-- An element is opened. -/
theorem RdS.pushed (h : RdS lo rb s at_ ov pv bp tv fr out pile text w) {nm : ByteArray} {o : Obj} {v' : Value} {w6 : World} (hrow : GRow StrE lo w6 v' (pile ++ [nm])) (hg : (w.alloc o).grownBy w6 pv.ownBlock) :
    (∀ k, k < w.heap.size → pv.ownBlock ≠ some k → w6.heap[k]? = w.heap[k]?) ∧ RdS lo rb s at_ ov v' bp tv fr out (pile ++ [nm]) text (w6.setCell ⟨rb, 3, none⟩ v') ∧ KeepX lo rb w (w6.setCell ⟨rb, 3, none⟩ v') := by
  have hrb := h.rb
  have hown := h.out.own
  have hpo : ∀ g, pv.ownBlock = some g → lo ≤ g ∧ ∃ c, w.heap[g]? = some (.cells c 9 (0, 0)) := fun g hv => ⟨h.pile.own g hv, h.pile.kind g hv⟩
  have hz0 : w.heap.size ≤ (w.alloc o).heap.size := by simp
  have hz : w.heap.size ≤ w6.heap.size := Nat.le_trans hz0 hg.size
  have key : ∀ k, k < w.heap.size → pv.ownBlock ≠ some k → w6.heap[k]? = w.heap[k]? := fun k hk hn =>
    (hg.block k (by simp; omega) (fun e => hn e.symm)).trans (Lib.alloc_old w _ k hk)
  have hne : pv.ownBlock ≠ some rb := fun e => by have := (hpo rb e).1; omega
  have hb6 := (key rb h.blk.lt' hne).trans h.blk
  have hset : ∀ k, k ≠ rb → (w6.setCell ⟨rb, 3, none⟩ v').heap[k]? = w6.heap[k]? := fun k hk => Below.heap_setCell _ _ _ _ hk
  have hkey : ∀ k, k < w.heap.size → k ≠ rb → pv.ownBlock ≠ some k → (w6.setCell ⟨rb, 3, none⟩ v').heap[k]? = w.heap[k]? := fun k hk hx hn => (hset k hx).trans (key k hk hn)
  have hzs : (w6.setCell ⟨rb, 3, none⟩ v').heap.size = w6.heap.size := by simp [World.setCell]
  refine ⟨key, ⟨⟨setH hb6 3 v', h.bld.p, rfl, ownsRow_later h.bld.row (fun g hv => hkey g (h.bld.own_lt hv).2 (by have := (h.bld.own_lt hv).1; omega) (fun e => ?_)), h.bld.ne, h.bld.lies, ?_⟩, h.out.later (fun g hv => ?_) (fun g c hg hc => hkey g (lt_some hc) (by omega) (fun e => ?_)), hrow.set rb 3 _ hrb, hrb⟩, ⟨hg.os, hg.tape, hg.output, by rw [hzs]; exact hz, fun k hk hx => hkey k (Nat.lt_of_lt_of_le hk h.bld.lo) hx (fun e => by have := (hpo k e).1; omega)⟩⟩
  · obtain ⟨c, hc⟩ := h.bld.kind hv
    obtain ⟨c', hc'⟩ := (hpo g e).2
    exact kinds_ne hc hc' (by decide)
  · rw [hzs]; exact Nat.le_trans h.bld.lo hz
  · obtain ⟨h1, c, hc⟩ := hown g hv
    exact hkey g (lt_some hc) (by omega) (fun e => by
      obtain ⟨c', hc'⟩ := (hpo g e).2
      exact kinds_ne hc hc' (by decide))
  · obtain ⟨c', hc'⟩ := (hpo g e).2
    exact kinds_ne hc hc' (by decide)
/-- An element is closed. -/
theorem RdS.popped (h : RdS lo rb s at_ ov (.slice (some ⟨pg, 0, none⟩) (n + 1) pc) bp tv fr out pile text w) : RdS lo rb s at_ ov (.slice (some ⟨pg, 0, none⟩) n pc) bp tv fr out pile.dropLast text (w.setCell ⟨rb, 3, none⟩ (.slice (some ⟨pg, 0, none⟩) n pc)) := by
  have hrb := h.rb
  have hset : ∀ k, k ≠ rb → (w.setCell ⟨rb, 3, none⟩ (.slice (some ⟨pg, 0, none⟩) n pc)).heap[k]? = w.heap[k]? := fun k hk => Below.heap_setCell _ _ _ _ hk
  have hlen : pile.length = n + 1 := by
    obtain ⟨a, c, e⟩ := h.pile.form
    injection e with _ e _
    exact e.symm
  obtain ⟨p, x, rfl⟩ : ∃ p x, pile = p ++ [x] := ⟨pile.dropLast, pile.getLast (by intro e; rw [e] at hlen; simp at hlen), (List.dropLast_concat_getLast _).symm⟩
  rw [List.length_append, List.length_singleton] at hlen
  have hn : p.length = n := by omega
  subst hn
  have hrow : GRow StrE lo w (.slice (some ⟨pg, 0, none⟩) p.length pc) p := by
    have hp := h.pile
    unfold GRow at hp ⊢
    rw [List.length_append, List.length_singleton, show StrE.cs (p ++ [x]) = StrE.cs p ++ [.string x] by simp [ETy.cs, StrE]] at hp
    exact ownsRow_pop (by rw [ETy.cs_len]) hp
  rw [List.dropLast_concat]
  refine ⟨⟨setH h.blk 3 _, h.bld.p, rfl, ownsRow_later h.bld.row (fun g hv => hset g (by have := (h.bld.own_lt hv).1; omega)), h.bld.ne, h.bld.lies, by simpa [World.setCell] using h.bld.lo⟩, h.out.later (fun g hv => hset g (by have := (h.out.own g hv).1; omega)) (fun g c hg hc => hset g (by omega)), hrow.set rb 3 _ hrb, hrb⟩
end
end Go.Proofs.YtnmpbphnfiiafaaGreatDoor
