/-
  Laws and contracts taken over from earlier texts (cut out by a program of this seat's own, slice.py), as far as this seat needs them.
-/
import Derived.Test.YtgbemhehbhlgpaaGreatDoorPlDe
namespace Go.Proofs.YtgbemhehbhlgpaaGreatDoor
section
open Go.RowKit
/-- Two blocks are known whole, and below a mark all is as in w0. -/
abbrev Hold2 (B : Nat) (w0 : World) (b0 : Nat) (c0 : Array Value) (b1 : Nat) (c1 : Array Value) (w' : World) : Prop :=
  (∀ o, w'.cell? ⟨b0, o, none⟩ = c0[o]?) ∧ (∀ o, w'.frozen? ⟨b0, o, none⟩ = false) ∧ (∀ o, w'.cell? ⟨b1, o, none⟩ = c1[o]?) ∧ (∀ o, w'.frozen? ⟨b1, o, none⟩ = false) ∧ Below B w0 w' ∧ b0 < w'.heap.size ∧ b1 < w'.heap.size ∧ B ≤ w'.heap.size ∧ Blk w' b0 c0 ∧ Blk w' b1 c1

theorem Hold2.mk {B : Nat} {w0 : World} {b0 : Nat} {c0 : Array Value} {b1 : Nat} {c1 : Array Value} {w' : World} (h0 : Blk w' b0 c0) (h1 : Blk w' b1 c1) (hB : Below B w0 w') (hz : B ≤ w0.heap.size) : Hold2 B w0 b0 c0 b1 c1 w' :=
  ⟨h0.cell, h0.free, h1.cell, h1.free, hB, h0.lt, h1.lt, Nat.le_trans hz hB.size, h0, h1⟩

theorem Hold2.drew {B : Nat} {w0 : World} {b0 : Nat} {c0 : Array Value} {b1 : Nat} {c1 : Array Value} {w' : World} (h : Hold2 B w0 b0 c0 b1 c1 w') : Hold2 B w0 b0 c0 b1 c1 w'.drew := by
  obtain ⟨a, b, c, d, e, f, g, i, j, k⟩ := h
  exact ⟨fun o => by simpa using a o, fun o => by simpa using b o, fun o => by simpa using c o, fun o => by simpa using d o, e.drew, by simpa using f, by simpa using g, by simpa using i, j.drew, k.drew⟩

theorem Hold2.on {B : Nat} {w0 : World} {b0 : Nat} {c0 : Array Value} {b1 : Nat} {c1 : Array Value} {w' w'' : World} (h : Hold2 B w0 b0 c0 b1 c1 w') (hB : Below w'.heap.size w' w'') : Hold2 B w0 b0 c0 b1 c1 w'' := by
  obtain ⟨a, b, c, d, e, f, g, i, j, k⟩ := h
  exact ⟨fun o => (hB.cell (p := ⟨b0, o, none⟩) f).trans (a o), fun o => (hB.frozen (p := ⟨b0, o, none⟩) f).trans (b o), fun o => (hB.cell (p := ⟨b1, o, none⟩) g).trans (c o), fun o => (hB.frozen (p := ⟨b1, o, none⟩) g).trans (d o),
    e.trans (hB.mono i), Nat.lt_of_lt_of_le f hB.size, Nat.lt_of_lt_of_le g hB.size, Nat.le_trans i hB.size, j.on hB, k.on hB⟩

theorem Hold2.alloc {B : Nat} {w0 : World} {b0 : Nat} {c0 : Array Value} {b1 : Nat} {c1 : Array Value} {w' : World} (h : Hold2 B w0 b0 c0 b1 c1 w') (o : Obj) : Hold2 B w0 b0 c0 b1 c1 (w'.alloc o) :=
  h.on ((Below.refl _ _).alloc (Nat.le_refl _) o)

/-- A call that only makes memory keeps what is held. -/
theorem hold_call {P : Program} {f : FuncId} {args : Array Value} {v : Value} {B : Nat} {w0 : World} {b0 : Nat} {c0 : Array Value} {b1 : Nat} {c1 : Array Value} {W : World} (h : Calls P f args W fun e w' => e = .returned v ∧ Below W.heap.size W w') (hS : Hold2 B w0 b0 c0 b1 c1 W) :
    Calls P f args W fun e w' => e = .returned v ∧ Hold2 B w0 b0 c0 b1 c1 w' := h.mono fun _ _ ⟨e, hB⟩ => ⟨e, hS.on hB⟩

/-- One block is known whole, and below a mark all is as in w0. -/
abbrev Hold1 (B : Nat) (w0 : World) (b0 : Nat) (c0 : Array Value) (w' : World) : Prop := (∀ o, w'.cell? ⟨b0, o, none⟩ = c0[o]?) ∧ Below B w0 w'

theorem Hold2.blk {B : Nat} {w0 : World} {b0 : Nat} {c0 : Array Value} {b1 : Nat} {c1 : Array Value} {w' : World} (h : Hold2 B w0 b0 c0 b1 c1 w') : Blk w' b0 c0 ∧ Blk w' b1 c1 := ⟨h.2.2.2.2.2.2.2.2.1, h.2.2.2.2.2.2.2.2.2⟩

theorem Hold2.one {B : Nat} {w0 : World} {b0 : Nat} {c0 : Array Value} {b1 : Nat} {c1 : Array Value} {w' : World} (h : Hold2 B w0 b0 c0 b1 c1 w') : Hold1 B w0 b0 c0 w' := ⟨h.1, h.2.2.2.2.1⟩

theorem Hold1.set {B : Nat} {w0 : World} {b0 : Nat} {c0 : Array Value} {w' : World} (h : Hold1 B w0 b0 c0 w') (c i : Nat) (v : Value) (hc : b0 ≠ c) (hB : B ≤ c) : Hold1 B w0 b0 c0 (w'.setCell ⟨c, i, none⟩ v) :=
  ⟨fun o => (World.cell?_setCell_other _ _ _ _ (fun e => hc (congrArg Addr.block e).symm)).trans (h.1 o), h.2.setCell hB _⟩

theorem Hold1.drew {B : Nat} {w0 : World} {b0 : Nat} {c0 : Array Value} {w' : World} (h : Hold1 B w0 b0 c0 w') : Hold1 B w0 b0 c0 w'.drew := ⟨fun o => by simpa using h.1 o, h.2.drew⟩

end
section
open Go.RowKit Go.PlainAid
/-- Nothing, and that an argument may not be. -/
abbrev noneE : Value := decE (false, ⟨#[]⟩, 0, 2)

/-- A decimal's digits without the last one, if there are several. -/
def cutZ (ds : ByteArray) : ByteArray := if 1 < ds.size then ds.extract 0 (ds.size - 1) else ds

/-- Noughts taken off the end, at most so many. -/
def trimF : Nat → ByteArray → ByteArray
  | 0, ds => ds
  | f + 1, ds => if bt ds (ds.size - 1) = 48 then trimF f (cutZ ds) else ds

def trimK : Nat → ByteArray → Nat
  | 0, _ => 0
  | f + 1, ds => if bt ds (ds.size - 1) = 48 then 1 + trimK f (cutZ ds) else 0

theorem cutZ_size (ds : ByteArray) (h : 1 ≤ ds.size) : 1 ≤ (cutZ ds).size ∧ (cutZ ds).size ≤ ds.size := by
  unfold cutZ
  split
  · rw [size_sub _ _ _ (by omega)]; omega
  · omega

set_option maxRecDepth 100000 in
set_option maxHeartbeats 4000000 in
theorem trim_yes (neg : Bool) (ds : ByteArray) (k m : Nat) (w : World) (hr : rightB neg ds k = true) (hm : m ≤ 400) :
    Calls Tryz.prog 98 #[.agg #[.bool neg, .string ds, .int .i64 k], .int .i64 m] w fun e w' => e = .returned (decE (neg, trimF (k - m) ds, (k : Int) - trimK (k - m) ds, 0)) ∧ Below w.heap.size w w' := by
  have hsc := fun W => scaled_yes (scale := m) hr (by omega) (by omega) W
  obtain ⟨h1, h2, h3, h4, _, hd⟩ := of_decide_eq_true hr
  clear hr hd
  go_enter Tryz.func98, Tryz.ntmps98
  go_wp2_with fail
  refine (hsc _).mono ?_
  rintro e w1 ⟨rfl, hB1⟩
  have ka := ((Blk.new w _ _).alloc _).on hB1
  have kb := (Blk.new' (w.alloc _) _ _ (w.heap.size + 1) (by simp)).on hB1
  have hBw1 := (((Below.refl w.heap.size w).alloc (Nat.le_refl _) _).alloc (by simp) _).trans (hB1.mono (by simp; omega))
  clear hB1 hsc
  go_wp2_with fail
  go_loopg [] k (fun j wr => j ≤ k ∧ (m ≤ j ∨ j = k) ∧ ∃ s : ByteArray, 1 ≤ s.size ∧ s.size ≤ 400 ∧ Blk wr w.heap.size #[Value.bool neg, .string s, .int .i64 j] ∧ Blk wr (w.heap.size + 1) #[Value.bool false, .string ⟨#[]⟩, .int .i64 0] ∧ Below w.heap.size w wr ∧ trimF (k - m) ds = trimF (j - m) s ∧ trimK (k - m) ds + j = k + trimK (j - m) s)
  case atStart => exact ⟨Nat.le_refl _, .inr rfl, ds, h1, h2, ka, kb, hBw1, rfl, by omega⟩
  case round =>
    obtain ⟨hj, hjm, s, hs1, hs2, kar, kbr, hB, hF, hK⟩ := hrel
    have HF := Lib.hid hF; have HK := Lib.hid hK
    clear hF hK
    have hb := get_bt s
    have ca := kar.cell
    have fa := kar.free
    by_cases hgo : m < gk ∧ bt s (s.size - 1) = 48
    · obtain ⟨hmg, h48⟩ := hgo
      have hF2 : trimF (gk - m) s = trimF (gk - 1 - m) (cutZ s) := by
        rw [show gk - m = (gk - 1 - m) + 1 by omega]
        show (if bt s (s.size - 1) = 48 then _ else _) = _
        rw [if_pos h48]
      have hK2 : trimK (gk - m) s = 1 + trimK (gk - 1 - m) (cutZ s) := by
        rw [show gk - m = (gk - 1 - m) + 1 by omega]
        show (if bt s (s.size - 1) = 48 then _ else _) = _
        rw [if_pos h48]
      have hx : (bt s (s.size - 1) == 48) = true := by simpa using h48
      have HF2 := Lib.hid hF2; have HK2 := Lib.hid hK2
      clear h48 hF2 hK2
      by_cases hlen : 1 < s.size
      · have HZ := Lib.hid (show cutZ s = s.extract 0 (s.size - 1) from if_pos hlen)
        have hz := cutZ_size s hs1
        go_wp2_with fail
        go_roundg (gk - 1)
        case rel =>
          refine ⟨by omega, .inl (by omega), cutZ s, hz.1, by omega, ?_, (kbr.other _ _ _ (by omega)).other _ _ _ (by omega), (hB.setCell (Nat.le_refl _) _).setCell (Nat.le_refl _) _, by rw [HF.out, HF2.out], by have := HK.out; have := HK2.out; omega⟩
          have h := (kar.set 2 (.int .i64 ((gk : Int) - 1))).set 1 (.string (s.extract 0 (s.size - 1)))
          rw [HZ.out, show ((gk - 1 : Nat) : Int) = (gk : Int) - 1 by omega]
          exact h
        case measure => omega
      · have hlen1 : s.size = 1 := by omega
        have HZ := Lib.hid (show cutZ s = s from if_neg hlen)
        have HL1 := Lib.hid hlen1
        clear hlen1
        go_wp2_with fail
        go_roundg (gk - 1)
        case rel =>
          refine ⟨by omega, .inl (by omega), s, hs1, hs2, ?_, kbr.other _ _ _ (by omega), hB.setCell (Nat.le_refl _) _, by rw [HF.out, HF2.out, HZ.out], by have := HK.out; have := HK2.out; rw [HZ.out] at this; omega⟩
          have h := kar.set 2 (.int .i64 ((gk : Int) - 1))
          rw [show ((gk - 1 : Nat) : Int) = (gk : Int) - 1 by omega]
          exact h
        case measure => omega
    · have hR : trimF (k - m) ds = s ∧ trimK (k - m) ds + gk = k := by
        have hF := HF.out
        have hK := HK.out
        have h0 : trimF (gk - m) s = s ∧ trimK (gk - m) s = 0 := by
          by_cases h : m < gk
          · have h48 : ¬ bt s (s.size - 1) = 48 := fun e => hgo ⟨h, e⟩
            rw [show gk - m = (gk - 1 - m) + 1 by omega]
            exact ⟨if_neg h48, if_neg h48⟩
          · rw [show gk - m = 0 by omega]
            exact ⟨rfl, rfl⟩
        rw [h0.1] at hF
        rw [h0.2] at hK
        exact ⟨hF, hK⟩
      have HR1 := Lib.hid hR.1
      have HR2 := Lib.hid (show (k : Int) - (trimK (k - m) ds : Nat) = gk by have := hR.2; omega)
      clear hR
      have cb := kbr.cell
      have fb := kbr.free
      have hdis : ¬ m < gk ∨ (m < gk ∧ (bt s (s.size - 1) == 48) = false) := by
        by_cases h : m < gk
        · exact .inr ⟨h, by simpa using fun e => hgo ⟨h, e⟩⟩
        · exact .inl h
      clear hgo
      rcases hdis with h | ⟨h, hx⟩
      all_goals
        go_wp2_with fail
        refine bodyPost_ret (v := decE (neg, s, gk, 0)) (by simp [results, Tryz.results98, go_sem, cb]) rfl ⟨ret_val (by rw [HR1.out, HR2.out]), ?_⟩
        exact ((hB.setCell (p := ⟨w.heap.size + 1, 0, none⟩) (Nat.le_succ _) _).setCell (p := ⟨w.heap.size + 1, 1, none⟩) (Nat.le_succ _) _).setCell (p := ⟨w.heap.size + 1, 2, none⟩) (Nat.le_succ _) _

set_option maxRecDepth 100000 in
set_option maxHeartbeats 2000000 in
theorem trim_no (neg : Bool) (ds : ByteArray) (sc scale : Int) (w : World) (h : rightB neg ds sc = false ∨ scale < 0 ∨ 400 < scale) :
    Calls Tryz.prog 98 #[.agg #[.bool neg, .string ds, .int .i64 sc], .int .i64 scale] w fun e w' => e = .returned noneE ∧ Below w.heap.size w w' := by
  have hsc := fun W => scaled_no h W
  clear h
  go_enter Tryz.func98, Tryz.ntmps98
  go_wp2_with fail
  refine (hsc _).mono ?_
  rintro e w1 ⟨rfl, hB1⟩
  have kb := (Blk.new' (w.alloc _) _ _ (w.heap.size + 1) (by simp)).on hB1
  have hBw1 := (((Below.refl w.heap.size w).alloc (Nat.le_refl _) _).alloc (by simp) _).trans (hB1.mono (by simp; omega))
  have cb := kb.cell
  have fb := kb.free
  clear hB1 hsc
  go_wp2_with fail
  refine bodyPost_ret (v := noneE) (by simp [results, Tryz.results98, go_sem, cb]) rfl ⟨rfl, ?_⟩
  exact ((hBw1.setCell (p := ⟨w.heap.size + 1, 0, none⟩) (Nat.le_succ _) _).setCell (p := ⟨w.heap.size + 1, 1, none⟩) (Nat.le_succ _) _).setCell (p := ⟨w.heap.size + 1, 2, none⟩) (Nat.le_succ _) _

end
section
open Go.RowKit Go.PlainAid
/-- Which of two numbers is less, as Go tells it. -/
def cmpN (a b : Nat) : Int := if a < b then -1 else if b < a then 1 else 0

theorem cmpN_cases (r H : Nat) : (H < r ∧ cmpN r H = 1) ∨ (r = H ∧ cmpN r H = 0) ∨ (r < H ∧ cmpN r H = -1) := by
  unfold cmpN
  by_cases h1 : r < H
  · exact .inr (.inr ⟨h1, if_pos h1⟩)
  · rw [if_neg h1]
    by_cases h2 : H < r
    · exact .inl ⟨h2, if_pos h2⟩
    · exact .inr (.inl ⟨by omega, if_neg h2⟩)

end
section
open Go.RowKit Go.PlainAid
/-- A slice of bytes that reads as a text. -/
def Bts (w : World) (v : Value) (s : ByteArray) : Prop :=
  ∃ g o cap, v = .slice (some ⟨g, o, none⟩) s.size cap ∧ g < w.heap.size ∧ s.size ≤ cap ∧ cap ≤ maxLen ∧ ∀ j, j < s.size → w.cell? ⟨g, o + j, none⟩ = some (.int .u8 (bt s j))

theorem Bts.later {B : Nat} {w w' : World} {v : Value} {s : ByteArray} (h : Bts w v s) (hb : Below B w w') (hB : w.heap.size ≤ B) : Bts w' v s := by
  obtain ⟨g, o, cap, hv, hg, hc, hm, hcell⟩ := h
  exact ⟨g, o, cap, hv, Nat.lt_of_lt_of_le hg hb.size, hc, hm, fun j hj => (hb.cell (p := ⟨g, o + j, none⟩) (by show g < B; omega)).trans (hcell j hj)⟩

theorem bts_new (W : World) (s : ByteArray) (h : s.size ≤ 1000000000000) : Bts (Lib.bytesWorld W 5 s) (.slice (some ⟨W.heap.size, 0, none⟩) s.size (grownCap W s.size 0 5)) s := by
  refine ⟨W.heap.size, 0, _, rfl, by rw [Lib.bytesWorld_size]; omega, grownCap_ge _ _ _ _, grownCap_le_maxLen _ _ _ _ (by unfold maxLen; omega), fun j hj => ?_⟩
  rw [Nat.zero_add, Lib.bytesWorld_cell W _ s j hj, ← get_bt s j hj]
  congr 3
  rw [List.getD_eq_getElem?_getD, List.getElem?_eq_getElem (by rw [← Lib.size_eq]; exact hj)]
  rfl

theorem below_bytes (W : World) (s : ByteArray) : Below W.heap.size W (Lib.bytesWorld W 5 s) := Go.Joins.below_bytesWorld _ _ _ _ (Nat.le_refl _)

theorem conv_bytes (W : World) (s : ByteArray) : (convert 9 93 (.string s)).run Tryz.prog W = .ok (.slice (some ⟨W.heap.size, 0, none⟩) s.size (grownCap W s.size 0 5)) (Lib.bytesWorld W 5 s) :=
  Lib.run_convert_string_bytes W _ _ _ s Tryz.underlying9 Tryz.underlying93 Tryz.underlying5

/-- The digits of a text, the lowest first. -/
def low (s : ByteArray) : List Nat := (dl s).reverse

theorem low_length (s : ByteArray) : (low s).length = s.size := by rw [low, List.length_reverse, dl_length]

theorem low_lt {s : ByteArray} (h : AllDig s) : ∀ d ∈ low s, d < 10 := fun d hd => dl_lt h d (by simpa [low] using hd)

theorem low_get {s : ByteArray} (h : AllDig s) (q m : Nat) (hq : q < s.size) (hm : m + q + 1 = s.size) : bt s q = 48 + (((low s).getD m 0 : Nat) : Int) := by
  have h1 := dl_get s q hq
  have h2 := h q hq
  have e : (low s).getD m 0 = (dl s)[q]'(by rw [dl_length]; exact hq) := by
    unfold low
    rw [List.getD_eq_getElem?_getD, List.getElem?_eq_getElem (by rw [List.length_reverse, dl_length]; omega), List.getElem_reverse]
    simp only [dl_length, Option.getD_some]
    congr 1
    omega
  rw [e]
  omega

end
section
open Go.RowKit Go.PlainAid
set_option maxHeartbeats 400000 in
theorem rAt_any (v : Value) (l : List Nat) (j : Nat) (w : World) (hv : Ints w v l) (hl : l.length ≤ 1000000000) (_ : j ≤ 1000000000) :
    Calls Tryz.prog 105 #[v, .int .i64 j] w fun e w' => e = .returned (.int .i64 ((l.getD j 0 : Nat) : Int)) ∧ w = w' := by
  by_cases h : j < l.length
  · rcases hv with ⟨rfl, _⟩ | ⟨g, o, cap, rfl, hg, hc, hm, hcell⟩
    · simp at h
    · have hx := hcell j h
      rw [List.getD_eq_getElem?_getD, List.getElem?_eq_getElem h]
      show Calls _ _ _ _ fun e w' => e = .returned (.int .i64 (l[j] : Int)) ∧ w = w'
      generalize l[j] = d at *
      clear hcell
      go_enter Tryz.func105, Tryz.ntmps105
      go_wp2_with fail
      go_ret
      exact ⟨rfl, rfl⟩
  · obtain ⟨a, cap, rfl⟩ := hv.form _ rfl
    rw [List.getD_eq_getElem?_getD, List.getElem?_eq_none (by omega)]
    clear hv
    go_enter Tryz.func105, Tryz.ntmps105
    go_wp2_with fail
    go_ret
    exact ⟨rfl, rfl⟩

set_option maxRecDepth 100000 in
set_option maxHeartbeats 2000000 in
theorem rMinus_any (va vb : Value) (a b : List Nat) (w : World) (hva : Ints w va a) (hvb : Ints w vb b) (ha : ∀ d ∈ a, d < 10) (hb : ∀ d ∈ b, d < 10) (la : a.length ≤ 1000000) (lb : b.length ≤ 1000000) :
    Calls Tryz.prog 104 #[va, vb] w fun e w' => ∃ v, e = .returned v ∧ IntRow w.heap.size w' v (subL a b a.length) ∧ Below w.heap.size w w' := by
  obtain ⟨ba, bc, hfb⟩ := hvb.form _ rfl
  have HX := Lib.hid (getD_lt ha); have HY := Lib.hid (getD_lt hb); have HC := Lib.hid (subB_le a b)
  have hbt : ∀ (W : World) (m n : Nat), Below w.heap.size w W → m ≤ 1000000000 → Calls Tryz.prog 105 #[vb, .int .i64 m] (W.drewN n) fun e w' => e = .returned (.int .i64 ((b.getD m 0 : Nat) : Int)) ∧ w' = W.drewN n := fun W m n h hm => (rAt_any vb b m (W.drewN n) (hvb.later (bdN0 h n) (Nat.le_refl _)) (by omega) hm).mono fun _ _ ⟨e1, e2⟩ => ⟨e1, e2.symm⟩
  have hcell : ∀ m (hm : m < a.length), ∃ g o cap, va = .slice (some ⟨g, o, none⟩) a.length cap ∧ g < w.heap.size ∧ a.length ≤ cap ∧ w.cell? ⟨g, o + m, none⟩ = some (.int .i64 ((a.getD m 0 : Nat) : Int)) := fun m hm => by
    rcases hva with ⟨rfl, _⟩ | ⟨g, o, cap, hv, hg, hc, hmx, hcell⟩
    · simp at hm
    · refine ⟨g, o, cap, hv, hg, hc, ?_⟩
      rw [hcell m hm, List.getD_eq_getElem?_getD, List.getElem?_eq_getElem hm]
      rfl
  obtain ⟨aa, ac, hfa⟩ := hva.form _ rfl
  subst hfa hfb
  have HCELL := Lib.hid hcell; have HBT := Lib.hid hbt
  clear hcell hbt hva hvb
  go_enter Tryz.func104, Tryz.ntmps104
  go_wp2_with fail
  go_loopw [5, 6, 7] (fun v c i wr => ∃ m : Nat, m ≤ a.length ∧ i = .int .i64 m ∧ c = .int .i64 ((subB a b m : Nat) : Int) ∧ IntRow w.heap.size wr v (subL a b m) ∧ Below w.heap.size w wr) (fun _ _ i _ => a.length - (intOf i).toNat)
  case atStart => exact ⟨0, Nat.zero_le _, rfl, rfl, IntRow.nil _ _, Below.refl _ _⟩
  case round =>
    obtain ⟨m, hm, rfl, rfl, hrow, hB⟩ := hrel
    have hsz := hB.size
    by_cases hgo : m < a.length
    · have c1 := HC.out m
      have x1 := HX.out m
      have y1 := HY.out m
      have hlen : (subL a b m).length ≤ 1000001 := by rw [subL_length]; omega
      have HST := Lib.hid (subL_succ a b m)
      have B1 := fun n => HBT.out wr m n hB (by omega)
      obtain ⟨g, o, cap, hv, hg, hcap, hcl⟩ := HCELL.out m hgo
      obtain ⟨rfl, _, rfl⟩ : aa = some ⟨g, o, none⟩ ∧ a.length = a.length ∧ ac = cap := by simpa using hv
      have hcl := (hB.cell (p := ⟨g, o + m, none⟩) hg).trans hcl
      have hd1 : a.getD m 0 < b.getD m 0 + subB a b m → ((a.getD m 0 : Nat) : Int) - ((b.getD m 0 : Nat) : Int) - ((subB a b m : Nat) : Int) + 10 = ((subD a b m : Nat) : Int) ∧ subB a b (m + 1) = 1 := fun h => ⟨by unfold subD; rw [if_pos h]; omega, by simp only [subB]; rw [if_pos h]⟩
      have hd2 : ¬ a.getD m 0 < b.getD m 0 + subB a b m → ((a.getD m 0 : Nat) : Int) - ((b.getD m 0 : Nat) : Int) - ((subB a b m : Nat) : Int) = ((subD a b m : Nat) : Int) ∧ subB a b (m + 1) = 0 := fun h => ⟨by unfold subD; rw [if_neg h]; omega, by simp only [subB]; rw [if_neg h]⟩
      have H1 := Lib.hid hd1; have H2 := Lib.hid hd2
      clear hd1 hd2 hv
      generalize a.getD m 0 = x at *
      generalize b.getD m 0 = y at *
      generalize hcc : subB a b m = c at *
      have HCC := Lib.hid hcc; clear hcc
      have e1 : IntKind.i64.wrap ((x : Int) - (y : Int)) = (x : Int) - (y : Int) := IntWalk.i64_in _ (by omega)
      have e2 : IntKind.i64.wrap ((x : Int) - (y : Int) - (c : Int)) = (x : Int) - (y : Int) - (c : Int) := IntWalk.i64_in _ (by omega)
      go_wp2_with fail
      go_quiet ((go_at_call 105; exact Calls.quiet_of_same (B1 _)))
      clear e1 e2 B1
      have hrowN := hrow.later (w' := wr.drewN nq) (bdN0 (Below.refl _ _) nq)
      have hBN := bdN0 hB nq
      have hszN := hBN.size
      by_cases hlt : x < y + c
      · obtain ⟨hd, hb1⟩ := H1.out hlt
        have HD := Lib.hid hd; have HB1 := Lib.hid hb1
        clear hd hb1
        go_wp2_with (at_builtin; go_must (refine wpList_snoc_int rfl _ _ rfl _ _ _ (subD a b m) rfl hrowN rfl HD.out (by omega) hBN (Nat.le_refl _) (Nat.le_refl _) (by simpa using hszN) ?_); intro v' w2 hrow2 hB2)
        go_roundw
        case rel => exact ⟨m + 1, by omega, by go_num, by rw [HB1.out]; rfl, by rw [HST.out]; exact hrow2, hB2⟩
        case measure => simp [intOf]; omega
      · obtain ⟨hd, hb1⟩ := H2.out hlt
        have HD := Lib.hid hd; have HB1 := Lib.hid hb1
        clear hd hb1
        go_wp2_with (at_builtin; go_must (refine wpList_snoc_int rfl _ _ rfl _ _ _ (subD a b m) rfl hrowN rfl HD.out (by omega) hBN (Nat.le_refl _) (Nat.le_refl _) (by simpa using hszN) ?_); intro v' w2 hrow2 hB2)
        go_roundw
        case rel => exact ⟨m + 1, by omega, by go_num, by rw [HB1.out]; rfl, by rw [HST.out]; exact hrow2, hB2⟩
        case measure => simp [intOf]; omega
    · obtain rfl : m = a.length := by omega
      go_wp2_with fail
      go_ret
      exact ⟨_, rfl, hrow, hB⟩

/-- Is a row less than another? -/
def lessB (a b : List Nat) : Bool := decide (rowval a < rowval b)

set_option maxRecDepth 100000 in
set_option maxHeartbeats 2000000 in
theorem rLess_any (va vb : Value) (a b : List Nat) (w : World) (hva : Ints w va a) (hvb : Ints w vb b) (ha : ∀ d ∈ a, d < 10) (hb : ∀ d ∈ b, d < 10) (la : a.length ≤ 1000000) (lb : b.length ≤ 1000000) :
    Calls Tryz.prog 103 #[va, vb] w fun e w' => e = .returned (.bool (lessB a b)) ∧ w = w' := by
  obtain ⟨aa, ac, hfa⟩ := hva.form _ rfl
  obtain ⟨ba, bc, hfb⟩ := hvb.form _ rfl
  have hat : ∀ (m : Nat), m ≤ 1000000000 → Calls Tryz.prog 105 #[va, .int .i64 m] w fun e w' => e = .returned (.int .i64 ((a.getD m 0 : Nat) : Int)) ∧ w = w' := fun m hm => rAt_any va a m w hva (by omega) hm
  have hbt : ∀ (m : Nat), m ≤ 1000000000 → Calls Tryz.prog 105 #[vb, .int .i64 m] w fun e w' => e = .returned (.int .i64 ((b.getD m 0 : Nat) : Int)) ∧ w = w' := fun m hm => rAt_any vb b m w hvb (by omega) hm
  subst hfa hfb
  have HA := Lib.hid hat; have HBT := Lib.hid hbt; have H10a := Lib.hid ha; have H10b := Lib.hid hb
  clear hat hbt hva hvb ha hb
  have hmx : max ((a.length : Nat) : Int) ((b.length : Nat) : Int) = ((max a.length b.length : Nat) : Int) := by omega
  have hout : ∀ j, max a.length b.length ≤ j → a.getD j 0 = b.getD j 0 := fun j hj => by
    rw [List.getD_eq_getElem?_getD, List.getD_eq_getElem?_getD, List.getElem?_eq_none (by omega), List.getElem?_eq_none (by omega)]
  have hM : max a.length b.length ≤ 1000000 := by omega
  generalize max a.length b.length = M at *
  have HOUT := Lib.hid hout; clear hout
  go_enter Tryz.func103, Tryz.ntmps103
  go_wp2_with fail
  go_loop [5] (fun i => ∃ m : Nat, m ≤ M ∧ i = .int .i64 ((m : Int) - 1) ∧ EqFrom a b m) (fun i => (intOf i + 1).toNat)
  case atStart => exact ⟨M, Nat.le_refl _, rfl, HOUT.out⟩
  case round =>
    obtain ⟨m, hm, rfl, heq⟩ := hrel
    have HE := Lib.hid heq; clear heq
    cases m with
    | zero =>
      have HR := Lib.hid (show lessB a b = false from decide_eq_false (by rw [eq_from_zero HE.out]; omega))
      go_wp2_with fail
      go_ret
      exact ⟨ret_bool (by rw [HR.out]), rfl⟩
    | succ q =>
      rw [show ((q + 1 : Nat) : Int) - 1 = (q : Int) by omega]
      have A1 := HA.out q (by omega)
      have B1 := HBT.out q (by omega)
      by_cases hne : a.getD q 0 = b.getD q 0
      · rw [hne] at A1
        have HE2 : EqFrom a b q := fun j hj => by
          by_cases e : j = q
          · rw [e]; exact hne
          · exact HE.out j (by omega)
        have HE3 := Lib.hid HE2; clear HE2
        clear hne
        generalize b.getD q 0 = y at *
        go_wp2_with (first
          | (go_at_call 105; (with_reducible refine A1.mono ?_); rintro e w' ⟨rfl, rfl⟩)
          | (go_at_call 105; (with_reducible refine B1.mono ?_); rintro e w' ⟨rfl, rfl⟩))
        go_round
        case rel => exact ⟨q, by omega, rfl, HE3.out⟩
        case measure => first | (simp [intOf]; done) | (simp [intOf]; omega)
      · have hl := less_at H10a.out H10b.out HE.out hne
        have HR := Lib.hid (show lessB a b = decide (a.getD q 0 < b.getD q 0) by unfold lessB; rw [Bool.eq_iff_iff]; simp only [decide_eq_true_eq]; exact hl)
        clear hl
        have hne' : ((a.getD q 0 : Int) == (b.getD q 0 : Int)) = false := by rw [beq_eq_false_iff_ne]; omega
        have hne2 : ((a.getD q 0 : Int) != (b.getD q 0 : Int)) = true := by rw [bne_iff_ne]; omega
        clear hne
        generalize a.getD q 0 = x at *
        generalize b.getD q 0 = y at *
        go_wp2_with (first
          | (go_at_call 105; (with_reducible refine A1.mono ?_); rintro e w' ⟨rfl, rfl⟩)
          | (go_at_call 105; (with_reducible refine B1.mono ?_); rintro e w' ⟨rfl, rfl⟩))
        go_ret
        exact ⟨ret_bool (by rw [HR.out]), rfl⟩

end
end Go.Proofs.YtgbemhehbhlgpaaGreatDoor
