/-
  The reader of files: the text ahead of a tag is told.
-/
import Derived.Test.YtnmpbphnfiiafaaGreatDoorXmEb
namespace Go.Proofs.YtnmpbphnfiiafaaGreatDoor
open Go.RowKit Go.PlainAid

def frI : Option Nat → Int
  | none => -1
  | some a => (a : Int)
/-- What tell comes to. -/
def TellEnd (lo rb : Nat) (s : ByteArray) (at_ : Nat) (pv : Value) (pile : List ByteArray) (w : World) (x : Xr (List Tk)) (en : Ending) (w' : World) : Prop :=
  match x with
  | .bad e a => en = Died e a ∧ KeepX lo rb w w'
  | .ok _ out => en = .returned (.tuple #[]) ∧ KeepX lo rb w w' ∧ ∃ ov bp tv, RdS lo rb s at_ ov pv bp tv (-1) out pile [] w'
set_option maxHeartbeats 2000000 in
set_option maxRecDepth 100000 in
theorem bReset_any (b o : Nat) (w : World) (x y : Value) (c0 : w.cell? ⟨b, o, none⟩ = some x) (c1 : w.cell? ⟨b, o + 1, none⟩ = some y) (f0 : w.frozen? ⟨b, o, none⟩ = false) (f1 : w.frozen? ⟨b, o + 1, none⟩ = false) :
    Calls Tryz.prog 92 #[.pointer (some ⟨b, o, none⟩)] w fun e w' => e = .returned (.tuple #[]) ∧ (w.setCell ⟨b, o, none⟩ (.pointer none)).setCell ⟨b, o + 1, none⟩ (.slice none 0 0) = w' := by
  go_enter Tryz.func92, Tryz.ntmps92
  go_wp2_with fail
  go_end0
  exact ⟨rfl, rfl⟩
/-- The reader without its text. -/
structure RdT (lo rb : Nat) (s : ByteArray) (at_ : Nat) (ov pv bp tv : Value) (fr : Int) (out : List Tk) (pile : List ByteArray) (w : World) : Prop where
  blk : BlkR w rb #[.string s, .int .i64 (at_ : Int), ov, pv, bp, tv, .int .i64 fr]
  out : OutAt lo w ov out
  pile : GRow StrE lo w pv pile
  rb : rb < lo
  lo : lo ≤ w.heap.size
section
variable {lo rb : Nat} {s : ByteArray} {at_ : Nat} {ov pv bp tv : Value} {fr : Int} {out : List Tk} {pile : List ByteArray} {text : List UInt8} {w : World}
theorem RdT.ofS (h : RdS lo rb s at_ ov pv bp tv fr out pile text w) {w' : World} (hB : KeepV tv w w') : RdT lo rb s at_ ov pv bp tv fr out pile w' := by
  have hrb := h.rb
  refine ⟨(hB.block rb h.blk.lt' (fun e => by have := (h.bld.own_lt e).1; omega)).trans h.blk, h.out.later (fun g hg => ?_) (fun g c hg hc => hB.block g (lt_some hc) (fun e => ?_)), h.pile.later (fun g hg => hB.block g (h.pile.lt g hg) (fun e => ?_)), hrb, Nat.le_trans h.bld.lo hB.size⟩
  · obtain ⟨_, c, hc⟩ := h.out.own g hg
    exact hB.block g (lt_some hc) (fun e => by
      obtain ⟨c', hc'⟩ := h.bld.kind e
      exact kinds_ne hc hc' (by decide))
  · obtain ⟨c', hc'⟩ := h.bld.kind e
    exact kinds_ne hc hc' (by decide)
  · obtain ⟨c, hc⟩ := h.pile.kind g hg
    obtain ⟨c', hc'⟩ := h.bld.kind e
    exact kinds_ne hc hc' (by decide)
theorem RdT.told (h : RdT lo rb s at_ ov pv bp tv fr out pile w) {ms xs : List TkM} {ts : List Tk} (h2 : ms.length = out.length) (h3 : ∀ j (h : j < ms.length) (h' : j < out.length), TkOk lo w ms[j] out[j]) (h4 : xs.length = ts.length) (h5 : ∀ j (h : j < xs.length) (h' : j < ts.length), TkOk lo w xs[j] ts[j]) {o : Obj} {v' : Value} {w6 : World} (hrow : GRow TkE lo w6 v' (ms ++ xs)) (hg : (w.alloc o).grownBy w6 ov.ownBlock) :
    (∀ k, k < w.heap.size → ov.ownBlock ≠ some k → w6.heap[k]? = w.heap[k]?) ∧ RdT lo rb s at_ v' pv bp tv fr (out ++ ts) pile (w6.setCell ⟨rb, 2, none⟩ v') ∧ KeepX lo rb w (w6.setCell ⟨rb, 2, none⟩ v') := by
  have hrb := h.rb
  have hown := h.out.own
  have hz0 : w.heap.size ≤ (w.alloc o).heap.size := by simp
  have hz : w.heap.size ≤ w6.heap.size := Nat.le_trans hz0 hg.size
  have key : ∀ k, k < w.heap.size → ov.ownBlock ≠ some k → w6.heap[k]? = w.heap[k]? := fun k hk hn =>
    (hg.block k (by simp; omega) (fun e => hn e.symm)).trans (Lib.alloc_old w _ k hk)
  have hne : ov.ownBlock ≠ some rb := fun e => by have := (hown rb e).1; omega
  have hb6 := (key rb h.blk.lt' hne).trans h.blk
  have hset : ∀ k, k ≠ rb → (w6.setCell ⟨rb, 2, none⟩ v').heap[k]? = w6.heap[k]? := fun k hk => Below.heap_setCell _ _ _ _ hk
  have hkey : ∀ k, k < w.heap.size → k ≠ rb → ov.ownBlock ≠ some k → (w6.setCell ⟨rb, 2, none⟩ v').heap[k]? = w.heap[k]? := fun k hk hx hn => (hset k hx).trans (key k hk hn)
  have hzs : (w6.setCell ⟨rb, 2, none⟩ v').heap.size = w6.heap.size := by simp [World.setCell]
  have hat : ∀ g c, lo ≤ g → w.heap[g]? = some (.cells c 47 (0, 0)) → (w6.setCell ⟨rb, 2, none⟩ v').heap[g]? = w.heap[g]? := fun g c hg hc => hkey g (lt_some hc) (by omega) (fun e => by
    obtain ⟨c', hc'⟩ := (hown g e).2
    exact kinds_ne hc hc' (by decide))
  refine ⟨key, ⟨setH hb6 2 v', ⟨ms ++ xs, hrow.set rb 2 _ hrb, by rw [List.length_append, List.length_append, h2, h4], fun j hj hj' => ?_⟩, h.pile.later (fun g hv => hkey g (h.pile.lt g hv) (by have := h.pile.own g hv; omega) (fun e => ?_)), hrb, by rw [hzs]; exact Nat.le_trans h.lo hz⟩, ⟨hg.os, hg.tape, hg.output, by rw [hzs]; exact hz, fun k hk hx => hkey k (Nat.lt_of_lt_of_le hk h.lo) hx (fun e => by have := (hown k e).1; omega)⟩⟩
  · by_cases hlt : j < ms.length
    · rw [List.getElem_append_left hlt, List.getElem_append_left (by omega)]
      exact (h3 j hlt (by omega)).later hat
    · rw [List.getElem_append_right (by omega), List.getElem_append_right (by omega)]
      have e : j - ms.length = j - out.length := by omega
      simp only [e]
      rw [List.length_append] at hj hj'
      exact (h5 (j - out.length) (by omega) (by omega)).later hat
  · obtain ⟨c, hc⟩ := h.pile.kind g hv
    obtain ⟨c', hc'⟩ := (hown g e).2
    exact kinds_ne hc hc' (by decide)
theorem RdT.reset (h : RdT lo rb s at_ ov pv bp tv fr out pile w) : RdS lo rb s at_ ov pv (.pointer none) (.slice none 0 0) fr out pile [] ((w.setCell ⟨rb, 4, none⟩ (.pointer none)).setCell ⟨rb, 5, none⟩ (.slice none 0 0)) := by
  have hrb := h.rb
  have hset : ∀ k, k ≠ rb → ((w.setCell ⟨rb, 4, none⟩ (.pointer none)).setCell ⟨rb, 5, none⟩ (.slice none 0 0)).heap[k]? = w.heap[k]? := fun k hk => (Below.heap_setCell _ _ _ _ hk).trans (Below.heap_setCell _ _ _ _ hk)
  refine ⟨⟨setH (setH h.blk 4 _) 5 _, .inl rfl, rfl, ⟨rfl, .inl ⟨rfl, rfl⟩⟩, by simp [Value.ownBlock], by kernel_rfl, by simpa [World.setCell] using h.lo⟩, h.out.later (fun g hv => hset g (by have := (h.out.own g hv).1; omega)) (fun g c hg hc => hset g (by omega)), h.pile.later (fun g hv => hset g (by have := h.pile.own g hv; omega)), hrb⟩
end
set_option maxRecDepth 100000 in
set_option maxHeartbeats 8000000 in
theorem tell_any {lo rb : Nat} {s : ByteArray} {at_ : Nat} {ov pv bp tv : Value} {from_ : Option Nat} {out : List Tk} {pile : List ByteArray} {text : List UInt8} {w : World} (h : RdS lo rb s at_ ov pv bp tv (frI from_) out pile text w) (hol : out.length ≤ 10000000) (hf0 : from_ = none → text = []) :
    Calls Tryz.prog 71 #[.pointer (some ⟨rb, 0, none⟩)] w fun en w' => TellEnd lo rb s at_ pv pile w (tellX out ⟨text.toArray⟩ from_) en w' := by
  cases from_ with
  | none =>
    obtain rfl := hf0 rfl
    have c6 : w.cell? ⟨rb, 6, none⟩ = some (.int .i64 (-1)) := h.blk.cell 6
    have HH := Lib.hid h
    clear h hf0
    go_enter Tryz.func71, Tryz.ntmps71
    go_wp2_with fail
    first | go_end0 | go_ret | refine bodyPost_ret (results_none rfl _ _ _) rfl ?_
    exact ⟨rfl, KeepX.refl _ _ _, _, _, _, HH.out⟩
  | some a =>
    have c6 : w.cell? ⟨rb, 6, none⟩ = some (.int .i64 (a : Int)) := h.blk.cell 6
    have ha : ¬ (a : Int) < 0 := by omega
    have hLen := bLen h.bld
    have hsz : (⟨text.toArray⟩ : ByteArray).size = text.length := by simp [ByteArray.size]
    obtain ⟨R, hR⟩ : ∃ R, tellX out ⟨text.toArray⟩ (some a) = R := ⟨_, rfl⟩
    rw [hR]
    by_cases h4 : 4096 < text.length
    · have hI : (4096 : Int) < (text.length : Int) := by omega
      have hf := fail_any (.pointer (some ⟨rb, 0, none⟩)) 3 (a : Int) w
      have hx : R = .bad 3 a := by rw [← hR]; unfold tellX; simp only; rw [if_pos (by rw [hsz]; exact h4)]
      have HX := Lib.hid hx
      clear h hx hR h4 hsz
      go_enter Tryz.func71, Tryz.ntmps71
      go_wp2_with fail
      refine hLen.mono ?_
      rintro e w' ⟨rfl, rfl⟩
      go_wp2_with fail
      refine hf.mono ?_
      rintro e w' ⟨rfl, rfl⟩
      go_wp2_with fail
      refine ⟨rfl, ?_⟩
      rw [HX.out]
      exact ⟨rfl, KeepX.refl _ _ _⟩
    · have hI : ¬ (4096 : Int) < (text.length : Int) := by omega
      have hx : R = .ok 0 (out ++ [(⟨3, ⟨#[]⟩, [], ⟨text.toArray⟩, a⟩ : Tk)]) := by rw [← hR]; unfold tellX; simp only; rw [if_neg (by rw [hsz]; exact h4)]
      have HX := Lib.hid hx
      obtain ⟨ms, hrow0, hms2, hms3⟩ := h.out
      obtain ⟨oa, on, oc, hov⟩ := hrow0.form'
      subst hov
      have c2 : w.cell? ⟨rb, 2, none⟩ = some (.slice oa on oc) := h.blk.cell 2
      have hSD : w.drew.cell? ⟨rb, 6, none⟩ = some (Value.int .i64 (a : Int)) := c6
      have hd := h.on (Below.refl _ _).drew
      have hstr := bString hd.bld
      have hlen : ms.length ≤ 100000000 := by omega
      have hps : ∀ w8, KeepV tv w.drew w8 → RdT lo rb s at_ (.slice oa on oc) pv bp tv (a : Int) out pile w8 := fun w8 hK => RdT.ofS hd hK
      have hKd : ∀ w8, KeepV tv w.drew w8 → KeepX lo rb w w8 := fun w8 hK => ⟨hK.os, hK.tape, hK.output, hK.size, fun g hg hx => hK.block g (Nat.lt_of_lt_of_le hg h.bld.lo) (fun e => by have := (h.bld.own_lt e).1; omega)⟩
      have hm8 : ∀ w8, KeepV tv w.drew w8 → GRow TkE lo w8 (.slice oa on oc) ms ∧ (∀ j (h : j < ms.length) (h' : j < out.length), TkOk lo w8 ms[j] out[j]) := fun w8 hK => by
        refine ⟨hrow0.later (fun g hg => ?_), fun j hj hj' => (hms3 j hj hj').later (fun g c hg hc => hK.block g (lt_some hc) (fun e => ?_))⟩
        · obtain ⟨c, hc⟩ := hrow0.kind g hg
          exact hK.block g (lt_some hc) (fun e => by
            obtain ⟨c', hc'⟩ := h.bld.kind e
            exact kinds_ne hc hc' (by decide))
        · obtain ⟨c', hc'⟩ := h.bld.kind e
          exact kinds_ne hc hc' (by decide)
      have htold : ∀ w8, KeepV tv w.drew w8 → ∀ v' w6, GRow TkE lo w6 v' (ms ++ [(⟨3, ⟨#[]⟩, none, 0, 0, ⟨text.toArray⟩, a⟩ : TkM)]) → (w8.alloc (.cells #[.int .i64 3, .string ⟨#[]⟩, .slice none 0 0, .string ⟨text.toArray⟩, .int .i64 (a : Int)] 45)).grownBy w6 (Value.slice oa on oc).ownBlock → (∀ k, k < w8.heap.size → (Value.slice oa on oc).ownBlock ≠ some k → w6.heap[k]? = w8.heap[k]?) ∧ RdT lo rb s at_ v' pv bp tv (a : Int) (out ++ [(⟨3, ⟨#[]⟩, [], ⟨text.toArray⟩, a⟩ : Tk)]) pile (w6.setCell ⟨rb, 2, none⟩ v') ∧ KeepX lo rb w8 (w6.setCell ⟨rb, 2, none⟩ v') := fun w8 hK v' w6 hr hg =>
        (hps w8 hK).told hms2 (hm8 w8 hK).2 rfl (fun j h h' => by
          obtain rfl : j = 0 := by simp at h; omega
          exact ⟨rfl, rfl, rfl, rfl, GRow.nil _ _ _⟩) hr hg
      have hpt : ∀ w8, KeepV tv w.drew w8 → ∀ v' w6, GRow TkE lo w6 v' (ms ++ [(⟨3, ⟨#[]⟩, none, 0, 0, ⟨text.toArray⟩, a⟩ : TkM)]) → (w8.alloc (.cells #[.int .i64 3, .string ⟨#[]⟩, .slice none 0 0, .string ⟨text.toArray⟩, .int .i64 (a : Int)] 45)).grownBy w6 (Value.slice oa on oc).ownBlock → RdT lo rb s at_ v' pv bp tv (a : Int) (out ++ [(⟨3, ⟨#[]⟩, [], ⟨text.toArray⟩, a⟩ : Tk)]) pile (w6.setCell ⟨rb, 2, none⟩ v') ∧ KeepX lo rb w (w6.setCell ⟨rb, 2, none⟩ v') := fun w8 hK v' w6 hr hg =>
        ⟨(htold w8 hK v' w6 hr hg).2.1, (hKd w8 hK).trans (htold w8 hK v' w6 hr hg).2.2⟩
      have hpack : ∀ w8, KeepV tv w.drew w8 → w8.cell? ⟨rb, 2, none⟩ = some (.slice oa on oc) ∧ lo ≤ w8.heap.size ∧ rb < w8.heap.size ∧ w8.cell? ⟨rb, 6, none⟩ = some (Value.int .i64 (a : Int)) ∧ (w8.alloc (.cells #[.int .i64 3, .string ⟨#[]⟩, .slice none 0 0, .string ⟨text.toArray⟩, .int .i64 (a : Int)] 45)).cell? ⟨rb, 6, none⟩ = some (Value.int .i64 (a : Int)) ∧ Hid (GRow TkE lo (w8.alloc (.cells #[.int .i64 3, .string ⟨#[]⟩, .slice none 0 0, .string ⟨text.toArray⟩, .int .i64 (a : Int)] 45)) (.slice oa on oc) ms) ∧
          Hid (∀ v' w6, GRow TkE lo w6 v' (ms ++ [(⟨3, ⟨#[]⟩, none, 0, 0, ⟨text.toArray⟩, a⟩ : TkM)]) → (w8.alloc (.cells #[.int .i64 3, .string ⟨#[]⟩, .slice none 0 0, .string ⟨text.toArray⟩, .int .i64 (a : Int)] 45)).grownBy w6 (Value.slice oa on oc).ownBlock → w6.frozen? ⟨rb, 2, none⟩ = false ∧ w6.cell? ⟨rb, 2, none⟩ = some (.slice oa on oc) ∧ w6.cell? ⟨rb, 6, none⟩ = some (Value.int .i64 (a : Int)) ∧ (w6.setCell ⟨rb, 2, none⟩ v').cell? ⟨rb, 6, none⟩ = some (Value.int .i64 (a : Int))) := fun w8 hK => by
        have h8 := hps w8 hK
        have hb8 : (w8.alloc (.cells #[.int .i64 3, .string ⟨#[]⟩, .slice none 0 0, .string ⟨text.toArray⟩, .int .i64 (a : Int)] 45)).heap[rb]? = w8.heap[rb]? := Lib.alloc_old w8 _ rb h8.blk.lt'
        refine ⟨h8.blk.cell 2, h8.lo, h8.blk.lt', h8.blk.cell 6, cellH (hb8.trans h8.blk) 6, Lib.hid ((hm8 w8 hK).1.on ((Below.refl _ _).alloc (Nat.le_refl _) _)), Lib.hid (fun v' w6 hr hg => ?_)⟩
        have hk := (htold w8 hK v' w6 hr hg).1
        have hb6 := (hk rb h8.blk.lt' (fun e => by have := (h8.out.own rb e).1; have := h8.rb; omega)).trans h8.blk
        exact ⟨freeH hb6 2, cellH hb6 2, cellH hb6 6, cellH (setH hb6 2 v') 6⟩
      have HPS := Lib.hid hpack; have HPT := Lib.hid hpt; have HSD := Lib.hid hSD
      have hrlt := h.blk.lt'
      clear h hx hR h4 hsz hrow0 hms2 hms3 hd hps hKd hm8 htold hpack hpt hSD
      go_enter Tryz.func71, Tryz.ntmps71
      go_wp2_with fail
      refine hLen.mono ?_
      rintro e w' ⟨rfl, rfl⟩
      go_upto_region 3 with fail
      refine wp_region_held_drew (S := fun w' => w'.cell? ⟨rb, 6, none⟩ = some (Value.int .i64 (a : Int))) (by kernel_rfl) (HSD.out) (fun hHeld => ?_)
      refine wpAnyH_take (i := 0) (v := ?_) rfl (by kernel_rfl) (by kernel_rfl) (by kernel_rfl) (fun _ _ _ h => h) (Or.inl ⟨by rfl, ?_⟩) hHeld ?_
      rotate_left
      · intro w hSw; (try dsimp only at hSw); first | (go_simp; done) | (go_simp; with_reducible rfl)
      try simp only [Act.put, List.setIfInBounds_toArray, List.set_cons_zero, List.set_cons_succ, List.getElem_toArray, List.getElem_cons_zero]
      refine wpAnyH_take (i := 1) (v := ?_) rfl (by kernel_rfl) (by kernel_rfl) (by kernel_rfl) (fun _ _ _ h => h) (Or.inl ⟨by rfl, ?_⟩) hHeld ?_
      rotate_left
      · intro w hSw; (try dsimp only at hSw); first | (go_simp; done) | (go_simp; with_reducible rfl)
      try simp only [Act.put, List.setIfInBounds_toArray, List.set_cons_zero, List.set_cons_succ, List.getElem_toArray, List.getElem_cons_zero, List.getElem_cons_succ]
      refine wpAnyH_take (i := 2) (v := ?_) rfl (by kernel_rfl) (by kernel_rfl) (by kernel_rfl) (fun _ _ _ h => h) (Or.inl ⟨by rfl, ?_⟩) hHeld ?_
      rotate_left
      · intro w hSw; (try dsimp only at hSw); first | (go_simp; done) | (go_simp; with_reducible rfl)
      try simp only [Act.put, List.setIfInBounds_toArray, List.set_cons_zero, List.set_cons_succ, List.getElem_toArray, List.getElem_cons_zero, List.getElem_cons_succ]
      refine wpAnyH_take (i := 3) (v := ?_) rfl (by kernel_rfl) (by kernel_rfl) (by kernel_rfl) (fun _ _ _ h => h) (Or.inl ⟨by rfl, ?_⟩) hHeld ?_
      rotate_left
      · intro w hSw; (try dsimp only at hSw); first | (go_simp; done) | (go_simp; with_reducible rfl)
      try simp only [Act.put, List.setIfInBounds_toArray, List.set_cons_zero, List.set_cons_succ, List.getElem_toArray, List.getElem_cons_zero, List.getElem_cons_succ]
      refine wpAnyH_take (i := 5) (v := ?_) rfl (by kernel_rfl) (by kernel_rfl) (by kernel_rfl) (fun _ _ _ h => h) (Or.inl ⟨by rfl, ?_⟩) hHeld ?_
      rotate_left
      · intro w hSw; (try dsimp only at hSw); first | (go_simp; done) | (go_simp; with_reducible rfl)
      try simp only [Act.put, List.setIfInBounds_toArray, List.set_cons_zero, List.set_cons_succ, List.getElem_toArray, List.getElem_cons_zero, List.getElem_cons_succ]
      refine wpAnyH_take (i := 6) (v := ?_) rfl (by kernel_rfl) (by kernel_rfl) (by kernel_rfl) (fun _ _ _ h => h) (Or.inl ⟨by rfl, ?_⟩) hHeld ?_
      rotate_left
      · intro w hSw; (try dsimp only at hSw); first | (go_simp; done) | (go_simp; with_reducible rfl)
      try simp only [Act.put, List.setIfInBounds_toArray, List.set_cons_zero, List.set_cons_succ, List.getElem_toArray, List.getElem_cons_zero, List.getElem_cons_succ]
      refine wpAnyH_take (i := 7) (v := ?_) rfl (by kernel_rfl) (by kernel_rfl) (by kernel_rfl) (fun _ _ _ h => h) (Or.inl ⟨by rfl, ?_⟩) hHeld ?_
      rotate_left
      · intro w hSw; (try dsimp only at hSw); first | (go_simp; done) | (go_simp; with_reducible rfl)
      try simp only [Act.put, List.setIfInBounds_toArray, List.set_cons_zero, List.set_cons_succ, List.getElem_toArray, List.getElem_cons_zero, List.getElem_cons_succ]
      refine wpAnyH_take (i := 9) (v := ?_) rfl (by kernel_rfl) (by kernel_rfl) (by kernel_rfl) (fun _ _ _ h => h) (Or.inl ⟨by rfl, ?_⟩) hHeld ?_
      rotate_left
      · intro w hSw; (try dsimp only at hSw); first | (go_simp; done) | (go_simp; with_reducible rfl)
      try simp only [Act.put, List.setIfInBounds_toArray, List.set_cons_zero, List.set_cons_succ, List.getElem_toArray, List.getElem_cons_zero, List.getElem_cons_succ]
      refine wpAnyH_take (i := 10) (v := ?_) rfl (by kernel_rfl) (by kernel_rfl) (by kernel_rfl) (fun _ _ _ h => h) (Or.inl ⟨by rfl, ?_⟩) hHeld ?_
      rotate_left
      · intro w hSw; (try dsimp only at hSw); first | (go_simp; done) | (go_simp; with_reducible rfl)
      try simp only [Act.put, List.setIfInBounds_toArray, List.set_cons_zero, List.set_cons_succ, List.getElem_toArray, List.getElem_cons_zero, List.getElem_cons_succ]
      refine wpAnyH_take (i := 11) (v := ?_) rfl (by kernel_rfl) (by kernel_rfl) (by kernel_rfl) (fun _ _ _ h => h) (Or.inl ⟨by rfl, ?_⟩) hHeld ?_
      rotate_left
      · intro w hSw; (try dsimp only at hSw); first | (go_simp; done) | (go_simp; with_reducible rfl)
      try simp only [Act.put, List.setIfInBounds_toArray, List.set_cons_zero, List.set_cons_succ, List.getElem_toArray, List.getElem_cons_zero, List.getElem_cons_succ]
      refine wpAnyH_take (i := 12) (v := ?_) rfl (by kernel_rfl) (by kernel_rfl) (by kernel_rfl) (fun _ _ _ h => h) (Or.inl ⟨by rfl, ?_⟩) hHeld ?_
      rotate_left
      · intro w hSw; (try dsimp only at hSw); first | (go_simp; done) | (go_simp; with_reducible rfl)
      try simp only [Act.put, List.setIfInBounds_toArray, List.set_cons_zero, List.set_cons_succ, List.getElem_toArray, List.getElem_cons_zero, List.getElem_cons_succ]
      refine wpAnyH_ready (rs := [4, 8]) (by kernel_rfl) (by simp) ?_
      refine AllReadyH.cons rfl (fun K hK => ?_) ?_
      go_simp
      refine hK.out _ _ (HSD.out) (fun hHeld => ?_)
      clear hK K
      refine wpAnyH_ready (rs := [8]) (by kernel_rfl) (by simp) ?_
      refine AllReadyH.cons rfl (fun K hK => ?_) AllReadyH.nil
      go_simp
      go_wp2_with (go_at_call 53; refine hstr.mono ?_; rintro e w8 ⟨rfl, hKV⟩; obtain ⟨c28, hr8, hlt8, hS8, hS8a, HRA, HPK⟩ := HPS.out w8 hKV)
      refine hK.out _ _ (hS8) (fun hHeld => ?_)
      clear hK K
      refine wpAnyH_take (i := 13) (v := ?_) rfl (by kernel_rfl) (by kernel_rfl) (by kernel_rfl) (fun _ _ _ h => h) (Or.inl ⟨by rfl, ?_⟩) hHeld ?_
      rotate_left
      · intro w hSw; (try dsimp only at hSw); first | (go_simp; done) | (go_simp; with_reducible rfl)
      try simp only [Act.put, List.setIfInBounds_toArray, List.set_cons_zero, List.set_cons_succ, List.getElem_toArray, List.getElem_cons_zero, List.getElem_cons_succ]
      refine wpAnyH_ready (rs := [14]) (by kernel_rfl) (by simp) ?_
      refine AllReadyH.cons rfl (fun K hK => ?_) AllReadyH.nil
      go_simp
      refine hK.out _ _ (hS8a) (fun hHeld => ?_)
      clear hK K
      refine wpAnyH_ready (rs := [15]) (by kernel_rfl) (by simp) ?_
      refine AllReadyH.cons rfl (fun K hK => ?_) AllReadyH.nil
      (refine step_snoc_g TkE (x := (⟨3, ⟨#[]⟩, none, 0, 0, ⟨text.toArray⟩, a⟩ : TkM)) rfl _ _ rfl lo (.slice oa on oc) ms rfl HRA.out 1 _ rfl (Blk.new _ _ _) hlen (Nat.le_trans hr8 (by simp)) ?_; intro v' w6 hrow6 hg6; obtain ⟨a', n', c', rfl⟩ := hrow6.form'; obtain ⟨f6, c6, hS6, hS6'⟩ := HPK.out _ _ hrow6 hg6)
      refine hK.out _ _ (hS6) (fun hHeld => ?_)
      clear hK K
      refine wpAnyH_take (i := 16) (v := ?_) rfl (by kernel_rfl) (by kernel_rfl) (by kernel_rfl) (fun _ _ _ h => h) (Or.inl ⟨by rfl, ?_⟩) hHeld ?_
      rotate_left
      · intro w hSw; (try dsimp only at hSw); first | (go_simp; done) | (go_simp; with_reducible rfl)
      try simp only [Act.put, List.setIfInBounds_toArray, List.set_cons_zero, List.set_cons_succ, List.getElem_toArray, List.getElem_cons_zero, List.getElem_cons_succ]
      refine wpAnyH_take (i := 17) (v := ?_) rfl (by kernel_rfl) (by kernel_rfl) (by kernel_rfl) (fun _ _ _ h => h) (Or.inl ⟨by rfl, ?_⟩) hHeld ?_
      rotate_left
      · intro w hSw; (try dsimp only at hSw); first | (go_simp; done) | (go_simp; with_reducible rfl)
      try simp only [Act.put, List.setIfInBounds_toArray, List.set_cons_zero, List.set_cons_succ, List.getElem_toArray, List.getElem_cons_zero, List.getElem_cons_succ]
      refine wpAnyH_ready (rs := [18]) (by kernel_rfl) (by simp) ?_
      refine AllReadyH.cons rfl (fun K hK => ?_) AllReadyH.nil
      go_simp
      refine hK.out _ _ (hS6') (fun hHeld => ?_)
      clear hK K
      refine wpAnyH_done (by kernel_rfl) ?_ _
      have hE := HPT.out _ hKV _ _ hrow6 hg6
      clear hHeld hS6' hS6 f6 c6 c28 hS8 hS8a HRA HPK
      generalize w6.setCell ⟨rb, 2, none⟩ (.slice a' n' c') = W9 at *
      clear hrow6 hg6 hKV
      have hrs := bReset_any rb 4 W9 _ _ (hE.1.blk.cell 4) (hE.1.blk.cell 5) (hE.1.blk.free 4) (hE.1.blk.free 5)
      go_wp2_with fail
      refine hrs.mono ?_
      rintro e W10 ⟨rfl, hW10⟩
      have hT10 := hE.1.reset
      have hK10 : KeepX lo rb w W10 := by rw [← hW10]; exact (hE.2.setCell _ _).setCell _ _
      rw [hW10] at hT10
      have d6 : W10.cell? ⟨rb, 6, none⟩ = some (.int .i64 (a : Int)) := hT10.blk.cell 6
      have d60 := hT10.blk.free 6
      clear hE hrs hW10
      go_wp2_with fail
      go_end0
      rw [HX.out]
      exact ⟨rfl, hK10.setCell _ _, _, _, _, hT10.set6 _⟩
      refine AllReadyH.cons rfl (fun K hK => ?_) ?_
      go_simp
      go_wp2_with (go_at_call 53; refine hstr.mono ?_; rintro e w8 ⟨rfl, hKV⟩; obtain ⟨c28, hr8, hlt8, hS8, hS8a, HRA, HPK⟩ := HPS.out w8 hKV)
      refine hK.out _ _ (hS8) (fun hHeld => ?_)
      clear hK K
      refine wpAnyH_take (i := 13) (v := ?_) rfl (by kernel_rfl) (by kernel_rfl) (by kernel_rfl) (fun _ _ _ h => h) (Or.inl ⟨by rfl, ?_⟩) hHeld ?_
      rotate_left
      · intro w hSw; (try dsimp only at hSw); first | (go_simp; done) | (go_simp; with_reducible rfl)
      try simp only [Act.put, List.setIfInBounds_toArray, List.set_cons_zero, List.set_cons_succ, List.getElem_toArray, List.getElem_cons_zero, List.getElem_cons_succ]
      refine wpAnyH_ready (rs := [4, 14]) (by kernel_rfl) (by simp) ?_
      refine AllReadyH.cons rfl (fun K hK => ?_) ?_
      go_simp
      refine hK.out _ _ (hS8) (fun hHeld => ?_)
      clear hK K
      refine wpAnyH_ready (rs := [14]) (by kernel_rfl) (by simp) ?_
      refine AllReadyH.cons rfl (fun K hK => ?_) AllReadyH.nil
      go_simp
      refine hK.out _ _ (hS8a) (fun hHeld => ?_)
      clear hK K
      refine wpAnyH_ready (rs := [15]) (by kernel_rfl) (by simp) ?_
      refine AllReadyH.cons rfl (fun K hK => ?_) AllReadyH.nil
      (refine step_snoc_g TkE (x := (⟨3, ⟨#[]⟩, none, 0, 0, ⟨text.toArray⟩, a⟩ : TkM)) rfl _ _ rfl lo (.slice oa on oc) ms rfl HRA.out 1 _ rfl (Blk.new _ _ _) hlen (Nat.le_trans hr8 (by simp)) ?_; intro v' w6 hrow6 hg6; obtain ⟨a', n', c', rfl⟩ := hrow6.form'; obtain ⟨f6, c6, hS6, hS6'⟩ := HPK.out _ _ hrow6 hg6)
      refine hK.out _ _ (hS6) (fun hHeld => ?_)
      clear hK K
      refine wpAnyH_take (i := 16) (v := ?_) rfl (by kernel_rfl) (by kernel_rfl) (by kernel_rfl) (fun _ _ _ h => h) (Or.inl ⟨by rfl, ?_⟩) hHeld ?_
      rotate_left
      · intro w hSw; (try dsimp only at hSw); first | (go_simp; done) | (go_simp; with_reducible rfl)
      try simp only [Act.put, List.setIfInBounds_toArray, List.set_cons_zero, List.set_cons_succ, List.getElem_toArray, List.getElem_cons_zero, List.getElem_cons_succ]
      refine wpAnyH_take (i := 17) (v := ?_) rfl (by kernel_rfl) (by kernel_rfl) (by kernel_rfl) (fun _ _ _ h => h) (Or.inl ⟨by rfl, ?_⟩) hHeld ?_
      rotate_left
      · intro w hSw; (try dsimp only at hSw); first | (go_simp; done) | (go_simp; with_reducible rfl)
      try simp only [Act.put, List.setIfInBounds_toArray, List.set_cons_zero, List.set_cons_succ, List.getElem_toArray, List.getElem_cons_zero, List.getElem_cons_succ]
      refine wpAnyH_ready (rs := [18]) (by kernel_rfl) (by simp) ?_
      refine AllReadyH.cons rfl (fun K hK => ?_) AllReadyH.nil
      go_simp
      refine hK.out _ _ (hS6') (fun hHeld => ?_)
      clear hK K
      refine wpAnyH_done (by kernel_rfl) ?_ _
      have hE := HPT.out _ hKV _ _ hrow6 hg6
      clear hHeld hS6' hS6 f6 c6 c28 hS8 hS8a HRA HPK
      generalize w6.setCell ⟨rb, 2, none⟩ (.slice a' n' c') = W9 at *
      clear hrow6 hg6 hKV
      have hrs := bReset_any rb 4 W9 _ _ (hE.1.blk.cell 4) (hE.1.blk.cell 5) (hE.1.blk.free 4) (hE.1.blk.free 5)
      go_wp2_with fail
      refine hrs.mono ?_
      rintro e W10 ⟨rfl, hW10⟩
      have hT10 := hE.1.reset
      have hK10 : KeepX lo rb w W10 := by rw [← hW10]; exact (hE.2.setCell _ _).setCell _ _
      rw [hW10] at hT10
      have d6 : W10.cell? ⟨rb, 6, none⟩ = some (.int .i64 (a : Int)) := hT10.blk.cell 6
      have d60 := hT10.blk.free 6
      clear hE hrs hW10
      go_wp2_with fail
      go_end0
      rw [HX.out]
      exact ⟨rfl, hK10.setCell _ _, _, _, _, hT10.set6 _⟩
      refine AllReadyH.cons rfl (fun K hK => ?_) ?_
      go_simp
      refine hK.out _ _ (hS8a) (fun hHeld => ?_)
      clear hK K
      refine wpAnyH_ready (rs := [4]) (by kernel_rfl) (by simp) ?_
      refine AllReadyH.cons rfl (fun K hK => ?_) AllReadyH.nil
      go_simp
      refine hK.out _ _ (hS8a) (fun hHeld => ?_)
      clear hK K
      refine wpAnyH_ready (rs := [15]) (by kernel_rfl) (by simp) ?_
      refine AllReadyH.cons rfl (fun K hK => ?_) AllReadyH.nil
      (refine step_snoc_g TkE (x := (⟨3, ⟨#[]⟩, none, 0, 0, ⟨text.toArray⟩, a⟩ : TkM)) rfl _ _ rfl lo (.slice oa on oc) ms rfl HRA.out 1 _ rfl (Blk.new _ _ _) hlen (Nat.le_trans hr8 (by simp)) ?_; intro v' w6 hrow6 hg6; obtain ⟨a', n', c', rfl⟩ := hrow6.form'; obtain ⟨f6, c6, hS6, hS6'⟩ := HPK.out _ _ hrow6 hg6)
      refine hK.out _ _ (hS6) (fun hHeld => ?_)
      clear hK K
      refine wpAnyH_take (i := 16) (v := ?_) rfl (by kernel_rfl) (by kernel_rfl) (by kernel_rfl) (fun _ _ _ h => h) (Or.inl ⟨by rfl, ?_⟩) hHeld ?_
      rotate_left
      · intro w hSw; (try dsimp only at hSw); first | (go_simp; done) | (go_simp; with_reducible rfl)
      try simp only [Act.put, List.setIfInBounds_toArray, List.set_cons_zero, List.set_cons_succ, List.getElem_toArray, List.getElem_cons_zero, List.getElem_cons_succ]
      refine wpAnyH_take (i := 17) (v := ?_) rfl (by kernel_rfl) (by kernel_rfl) (by kernel_rfl) (fun _ _ _ h => h) (Or.inl ⟨by rfl, ?_⟩) hHeld ?_
      rotate_left
      · intro w hSw; (try dsimp only at hSw); first | (go_simp; done) | (go_simp; with_reducible rfl)
      try simp only [Act.put, List.setIfInBounds_toArray, List.set_cons_zero, List.set_cons_succ, List.getElem_toArray, List.getElem_cons_zero, List.getElem_cons_succ]
      refine wpAnyH_ready (rs := [18]) (by kernel_rfl) (by simp) ?_
      refine AllReadyH.cons rfl (fun K hK => ?_) AllReadyH.nil
      go_simp
      refine hK.out _ _ (hS6') (fun hHeld => ?_)
      clear hK K
      refine wpAnyH_done (by kernel_rfl) ?_ _
      have hE := HPT.out _ hKV _ _ hrow6 hg6
      clear hHeld hS6' hS6 f6 c6 c28 hS8 hS8a HRA HPK
      generalize w6.setCell ⟨rb, 2, none⟩ (.slice a' n' c') = W9 at *
      clear hrow6 hg6 hKV
      have hrs := bReset_any rb 4 W9 _ _ (hE.1.blk.cell 4) (hE.1.blk.cell 5) (hE.1.blk.free 4) (hE.1.blk.free 5)
      go_wp2_with fail
      refine hrs.mono ?_
      rintro e W10 ⟨rfl, hW10⟩
      have hT10 := hE.1.reset
      have hK10 : KeepX lo rb w W10 := by rw [← hW10]; exact (hE.2.setCell _ _).setCell _ _
      rw [hW10] at hT10
      have d6 : W10.cell? ⟨rb, 6, none⟩ = some (.int .i64 (a : Int)) := hT10.blk.cell 6
      have d60 := hT10.blk.free 6
      clear hE hrs hW10
      go_wp2_with fail
      go_end0
      rw [HX.out]
      exact ⟨rfl, hK10.setCell _ _, _, _, _, hT10.set6 _⟩
      exact AllReadyH.nil
      rotate_left
      exact AllReadyH.nil
end Go.Proofs.YtnmpbphnfiiafaaGreatDoor
