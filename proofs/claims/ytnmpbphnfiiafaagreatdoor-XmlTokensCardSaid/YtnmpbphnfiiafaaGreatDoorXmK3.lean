/-
  Unescape, whole.
-/
import Derived.Test.YtnmpbphnfiiafaaGreatDoorXmK2
namespace Go.Proofs.YtnmpbphnfiiafaaGreatDoor
open Go.RowKit Go.PlainAid

/-- What Unescape comes to. -/
def UnEnd (s : ByteArray) (w : World) (en : Ending) (w' : World) : Prop :=
  match unescX s with
  | .bad e a => en = .returned (.tuple #[.string ⟨#[]⟩, .agg #[.int .i64 e, .int .i64 (a : Int)]]) ∧ Below w.heap.size w w'
  | .ok _ b => en = .returned (.tuple #[.string b, .agg #[.int .i64 0, .int .i64 0]]) ∧ Below w.heap.size w w'
theorem un_results (t : Array Value) {lb sb : Nat} {lv y z : Value} (h2 : t.getD 2 undef = .pointer (some ⟨lb, 0, none⟩)) (h3 : t.getD 3 undef = .pointer (some ⟨sb, 0, none⟩)) {W : World} (cl : W.cell? ⟨lb, 0, none⟩ = some lv) (c0 : W.cell? ⟨sb, 0, none⟩ = some y) (c1 : W.cell? ⟨sb, 1, none⟩ = some z) :
    (results Tryz.f23 t).run Tryz.prog W = .ok (.tuple #[lv, .agg #[y, z]]) W := by
  rw [Array.getD_eq_getD_getElem?] at h2 h3
  simp [results, Tryz.results23, go_sem, h2, h3, cl, c0, c1]
/-- The named results, as they are made. -/
def NmU (lb sb : Nat) (W : World) : Prop := W.heap[lb]? = some (.cells #[.string ⟨#[]⟩] 9 (0, 0)) ∧ W.heap[sb]? = some (.cells #[.int .i64 0, .int .i64 0] 26 (0, 0))
theorem un_dead {s : ByteArray} {w W : World} {t : Array Value} {lb sb : Nat} {e : Int} {a : Nat} (h2 : t.getD 2 undef = .pointer (some ⟨lb, 0, none⟩)) (h3 : t.getD 3 undef = .pointer (some ⟨sb, 0, none⟩)) (hN : NmU lb sb W) (hne : lb ≠ sb) (hlb : w.heap.size ≤ lb) (hsb : w.heap.size ≤ sb) (hB : Below w.heap.size w W) (hX : unescX s = .bad e a) :
    Leaves Tryz.prog Tryz.f23 t (fun en w' => UnEnd s w en w') [{ target := .fn (.func 51) #[.pointer (some ⟨lb, 0, none⟩), .pointer (some ⟨sb, 0, none⟩)], args := #[] }] (.panicking [{ v := .iface 65 (.agg #[.int .i64 e, .int .i64 (a : Int)]), recovered := false }]) W := by
  refine leaves_cons (f := 51) (args := #[.pointer (some ⟨lb, 0, none⟩), .pointer (some ⟨sb, 0, none⟩)]) (by simp) (by simp [go_sem]) ?_
  refine (catch_unescape lb sb _ _ _ e (a : Int) [] W (cellH hN.1 0) (cellH hN.2 0) (cellH hN.2 1) (freeH hN.1 0) (freeH hN.2 0) (freeH hN.2 1) hne).mono ?_
  rintro en u' w' ⟨rfl, rfl, hC⟩
  show Leaves _ _ _ _ [] .returning w'
  refine ⟨_, un_results t h2 h3 hC.l hC.s0 hC.s1, ?_⟩
  unfold UnEnd
  rw [hX]
  exact ⟨rfl, hB.trans ⟨hC.os, hC.tape, hC.output, hC.size, fun k hk => hC.block k (Nat.lt_of_lt_of_le hk hB.size) (by omega) (by omega)⟩⟩
theorem un_good {R : Ending → World → Prop} {W : World} {t : Array Value} {lb sb : Nat} {lv y z : Value} (h2 : t.getD 2 undef = .pointer (some ⟨lb, 0, none⟩)) (h3 : t.getD 3 undef = .pointer (some ⟨sb, 0, none⟩)) (cl : W.cell? ⟨lb, 0, none⟩ = some lv) (c0 : W.cell? ⟨sb, 0, none⟩ = some y) (c1 : W.cell? ⟨sb, 1, none⟩ = some z) (hR : R (.returned (.tuple #[lv, .agg #[y, z]])) W) :
    Leaves Tryz.prog Tryz.f23 t R [{ target := .fn (.func 51) #[.pointer (some ⟨lb, 0, none⟩), .pointer (some ⟨sb, 0, none⟩)], args := #[] }] .returning W := by
  refine leaves_cons (f := 51) (args := #[.pointer (some ⟨lb, 0, none⟩), .pointer (some ⟨sb, 0, none⟩)]) (by simp) (by simp [go_sem]) ?_
  refine (idle_unescape _ _ W).mono ?_
  rintro en u' w' ⟨rfl, rfl, rfl⟩
  exact ⟨_, un_results t h2 h3 cl c0 c1, hR⟩
theorem unF_end {s : ByteArray} {g p : Nat} {acc : ByteArray} (h : s.size ≤ p) : unF s (g + 1) p acc = .ok p acc := by
  conv => lhs; unfold unF
  rw [if_pos h]
theorem unF_bad {s : ByteArray} {g p : Nat} {acc : ByteArray} (h : ¬ s.size ≤ p) (h2 : bt s p = 60) : unF s (g + 1) p acc = .bad 140 p := by
  conv => lhs; unfold unF
  rw [if_neg h, if_pos h2]
theorem unF_go {s : ByteArray} {g p : Nat} {acc : ByteArray} (h : ¬ s.size ≤ p) (h2 : ¬ bt s p = 60) : unF s (g + 1) p acc = match pieceX s p with
    | .bad e a => .bad e a
    | .ok q b => unF s g q (acc ++ b) := by
  conv => lhs; unfold unF
  rw [if_neg h, if_neg h2]
  cases pieceX s p <;> rfl
/-- The walk behind the check: what it stands on. -/
structure UnAt (s : ByteArray) (w w4 : World) (lb sb rb : Nat) : Prop where
  nm : NmU lb sb w4
  ne : lb ≠ sb
  hlb : w.heap.size ≤ lb
  hsb : w.heap.size ≤ sb
  lr : lb < rb
  sr : sb < rb
  rb : rb < w4.heap.size
  bel : Below w.heap.size w w4
theorem UnAt.nmk {s : ByteArray} {w w4 W : World} {lb sb rb : Nat} (h : UnAt s w w4 lb sb rb) (hK : KeepX w4.heap.size rb w4 W) : NmU lb sb W := by
  have h1 := h.lr
  have h2 := h.sr
  have h3 := h.rb
  exact ⟨(hK.block lb (by omega) (by omega)).trans h.nm.1, (hK.block sb (by omega) (by omega)).trans h.nm.2⟩
theorem UnAt.belk {s : ByteArray} {w w4 W : World} {lb sb rb : Nat} (h : UnAt s w w4 lb sb rb) (hK : KeepX w4.heap.size rb w4 W) : Below w.heap.size w W :=
  h.bel.trans (hK.below h.bel.size (by have := h.lr; have := h.hlb; omega))
theorem UnAt.dead {s : ByteArray} {w w4 W : World} {lb sb rb : Nat} {t : Array Value} {e : Int} {a : Nat} (h : UnAt s w w4 lb sb rb) (h2 : t.getD 2 undef = .pointer (some ⟨lb, 0, none⟩)) (h3 : t.getD 3 undef = .pointer (some ⟨sb, 0, none⟩)) (hK : KeepX w4.heap.size rb w4 W) (hX : unescX s = .bad e a) :
    Leaves Tryz.prog Tryz.f23 t (fun en w' => UnEnd s w en w') [{ target := .fn (.func 51) #[.pointer (some ⟨lb, 0, none⟩), .pointer (some ⟨sb, 0, none⟩)], args := #[] }] (.panicking [{ v := .iface 65 (.agg #[.int .i64 e, .int .i64 (a : Int)]), recovered := false }]) W :=
  un_dead h2 h3 (h.nmk hK) h.ne h.hlb h.hsb (h.belk hK) hX

set_option maxRecDepth 100000 in
set_option maxHeartbeats 16000000 in
theorem unescape_any (s : ByteArray) (w : World) (hz : s.size ≤ 4000000000) (hG : Gx w) :
    Calls Tryz.prog 23 #[.string s] w fun en w' => UnEnd s w en w' := by
  have hzI : (s.size : Int) ≤ 4000000000 := by omega
  obtain ⟨w1, hw1⟩ : ∃ w1, (w.alloc (.cells #[.string ⟨#[]⟩] 9)).alloc (.cells #[.int .i64 0, .int .i64 0] 26) = w1 := ⟨_, rfl⟩
  have hB1 : Below w.heap.size w w1 := by
    rw [← hw1]
    exact ((Below.refl w.heap.size w).alloc (Nat.le_refl _) _).alloc (by simp) _
  have hN1 : NmU w.heap.size (w.heap.size + 1) w1 := by
    rw [← hw1]
    exact ⟨(Lib.alloc_old _ _ _ (by simp)).trans (push_new _ _ _ rfl), push_new _ _ _ (by simp)⟩
  have hz1 : w1.heap.size = w.heap.size + 1 + 1 := by rw [← hw1]; simp
  have hck := check_any s w1 (by omega)
  by_cases hbk : 0 ≤ brk s 0
  · have hx : unescX s = .bad 6 (brk s 0).toNat := by unfold unescX; rw [if_pos hbk]
    have hsp : spotV (brk s 0) = .agg #[.int .i64 6, .int .i64 (((brk s 0).toNat : Nat) : Int)] := by unfold spotV; rw [if_pos hbk, Int.toNat_of_nonneg hbk]
    rw [hsp] at hck
    have HX := Lib.hid hx; have HB1 := Lib.hid hB1; have HN1 := Lib.hid hN1
    obtain ⟨k, hk⟩ : ∃ k, (brk s 0).toNat = k := ⟨_, rfl⟩
    rw [hk] at hck HX
    have HW1 := Lib.hid hw1
    clear hx hsp hbk hk hB1 hN1 hw1 hz1 hG
    go_enter_defers Tryz.func23, Tryz.ntmps23
    go_wp2_with fail
    rw [HW1.out]
    refine hck.mono ?_
    rintro e w2 ⟨rfl, hB2⟩
    have hN2 : NmU w.heap.size (w.heap.size + 1) w2 := ⟨(hB2.block _ (lt_some HN1.out.1)).trans HN1.out.1, (hB2.block _ (lt_some HN1.out.2)).trans HN1.out.2⟩
    have hl2 := lt_some hN2.1
    have hs2 := lt_some hN2.2
    have hA := (Below.refl w2.heap.size w2).alloc (Nat.le_refl _) (.cells #[.int .i64 6, .int .i64 (k : Int)] 26)
    have hN3 : NmU w.heap.size (w.heap.size + 1) (w2.alloc (.cells #[.int .i64 6, .int .i64 (k : Int)] 26)) := ⟨(hA.block _ hl2).trans hN2.1, (hA.block _ hs2).trans hN2.2⟩
    have hT := Blk.new w2 #[.int .i64 6, .int .i64 (k : Int)] 26
    have hB3 : Below w.heap.size w (w2.alloc (.cells #[.int .i64 6, .int .i64 (k : Int)] 26)) := (HB1.out.trans (hB2.mono HB1.out.size)).trans (hA.mono (Nat.le_trans HB1.out.size hB2.size))
    clear hck hN2 hA hB2
    go_upto_region 3 with fail
    generalize hfb : w2.heap.size = fb at *
    generalize w2.alloc (.cells #[.int .i64 6, .int .i64 (k : Int)] 26) = W at *
    have n1 : fb ≠ w.heap.size := by omega
    have n2 : fb ≠ w.heap.size + 1 := by omega
    have n3 : w.heap.size ≠ w.heap.size + 1 := by omega
    have cl : W.cell? ⟨w.heap.size, 0, none⟩ = some (.string ⟨#[]⟩) := cellH hN3.1 0
    have cs0 : W.cell? ⟨w.heap.size + 1, 0, none⟩ = some (.int .i64 0) := cellH hN3.2 0
    have cs1 : W.cell? ⟨w.heap.size + 1, 1, none⟩ = some (.int .i64 0) := cellH hN3.2 1
    have fl := freeH hN3.1 0
    have fs0 := freeH hN3.2 0
    have fs1 := freeH hN3.2 1
    have t0 : W.cell? ⟨fb, 0, none⟩ = some (.int .i64 6) := hT.cell 0
    have t1 : W.cell? ⟨fb, 1, none⟩ = some (.int .i64 (k : Int)) := hT.cell 1
    have HC := Lib.hid (caught_of (lv := .string ⟨#[]⟩) (e := 6) (a := (k : Int)) (Below.refl W.heap.size W) cl cs0 cs1 n3)
    have HB3 := Lib.hid hB3
    clear hN3 hT hB3
    go_region
    all_goals
      go_wp2_with fail
      have hC : Caught w.heap.size (w.heap.size + 1) (.string ⟨#[]⟩) 6 (k : Int) W _ := HC.out
      show Leaves _ _ _ _ [] .returning _
      refine ⟨_, un_results _ (lb := w.heap.size) (sb := w.heap.size + 1) rfl rfl hC.l hC.s0 hC.s1, ?_⟩
      unfold UnEnd
      rw [HX.out]
      exact ⟨rfl, HB3.out.trans ⟨hC.os, hC.tape, hC.output, hC.size, fun j hj => hC.block j (Nat.lt_of_lt_of_le hj HB3.out.size) (by omega) (by omega)⟩⟩
  · have hx0 : unescX s = unF s (s.size + 1) 0 ⟨#[]⟩ := by
      unfold unescX
      rw [if_neg hbk]
    have hsp : spotV (brk s 0) = .agg #[.int .i64 0, .int .i64 0] := by unfold spotV; rw [if_neg hbk]
    rw [hsp] at hck
    have key : ∀ w2, Below w1.heap.size w1 w2 → ∃ rb w4 w5, rb = w2.heap.size + 1 ∧ w4.heap.size = w2.heap.size + 1 + 1 ∧ w5 = ((w2.alloc (.cells #[.int .i64 0, .int .i64 0] 26)).alloc (.cells #[.string s, .int .i64 0, .slice none 0 0, .slice none 0 0, .pointer none, .slice none 0 0, .int .i64 0] 72)).alloc (.cells #[.pointer none, .slice none 0 0] 70) ∧
        UnAt s w w4 w.heap.size (w.heap.size + 1) rb ∧ Moved rb s #[.string s, .int .i64 0, .slice none 0 0, .slice none 0 0, .pointer none, .slice none 0 0, .int .i64 0] w4 0 w5 ∧ Bld w4.heap.size w4.heap.size 0 70 #[.pointer none, .slice none 0 0] (.slice none 0 0) [] w5 ∧ (∀ W, KeepX w4.heap.size rb w4 W → Gx W) := fun w2 hB2 => by
      refine ⟨_, (w2.alloc (.cells #[.int .i64 0, .int .i64 0] 26)).alloc (.cells #[.string s, .int .i64 0, .slice none 0 0, .slice none 0 0, .pointer none, .slice none 0 0, .int .i64 0] 72), _, rfl, by simp, rfl, ?_⟩
      have hzz := hB2.size
      have hB4 : Below w1.heap.size w1 ((w2.alloc (.cells #[.int .i64 0, .int .i64 0] 26)).alloc (.cells #[.string s, .int .i64 0, .slice none 0 0, .slice none 0 0, .pointer none, .slice none 0 0, .int .i64 0] 72)) := (hB2.alloc hB2.size _).alloc (by simp; omega) _
      generalize hw4 : (w2.alloc (.cells #[.int .i64 0, .int .i64 0] 26)).alloc (.cells #[.string s, .int .i64 0, .slice none 0 0, .slice none 0 0, .pointer none, .slice none 0 0, .int .i64 0] 72) = w4 at *
      have hz4 : w4.heap.size = w2.heap.size + 1 + 1 := by rw [← hw4]; simp
      have hrb : w4.heap[w2.heap.size + 1]? = some (.cells #[.string s, .int .i64 0, .slice none 0 0, .slice none 0 0, .pointer none, .slice none 0 0, .int .i64 0] 72 (0, 0)) := by
        rw [← hw4]
        exact push_new _ _ _ (by simp)
      have hTA : UnAt s w w4 w.heap.size (w.heap.size + 1) (w2.heap.size + 1) := ⟨⟨(hB4.block _ (by omega)).trans hN1.1, (hB4.block _ (by omega)).trans hN1.2⟩, by omega, Nat.le_refl _, by omega, by omega, by omega, by omega, hB1.trans (hB4.mono (by omega))⟩
      have hR4 : Rdr (w2.heap.size + 1) s 0 #[.string s, .int .i64 0, .slice none 0 0, .slice none 0 0, .pointer none, .slice none 0 0, .int .i64 0] w4 := ⟨hrb, rfl, rfl⟩
      exact ⟨hTA, hR4.moved ((Below.refl _ _).alloc (Nat.le_refl _) _), bld_new w4 w4.heap.size (Nat.le_refl _), fun W hW => hG.on (hTA.belk hW)⟩
    have HX0 := Lib.hid hx0; have HKEY := Lib.hid key; have HW1 := Lib.hid hw1
    clear hx0 hsp hbk hB1 hN1 hw1 hz1 hG key
    have hmf : ∀ (fn : Fn) (first cap : Array Value) (w : World), (Instr.makeFunc fn first cap).run Tryz.prog w = .ok (.func fn first cap) w := fun _ _ _ _ => rfl
    have hwy := fun p W => want_yes p W
    go_enter_defers Tryz.func23, Tryz.ntmps23
    go_wp2_with fail
    rw [HW1.out]
    refine hck.mono ?_
    rintro e w2 ⟨rfl, hB2⟩
    obtain ⟨rb, w4, w5, hrb, hz4, hw5, hTA, hM5, hb5, hG4⟩ := HKEY.out w2 hB2
    have HTA := Lib.hid hTA; have HM5 := Lib.hid hM5; have HB5 := Lib.hid hb5; have HG4 := Lib.hid hG4
    clear hTA hM5 hb5 hG4 hck HKEY hB2
    go_wp2_with fail
    rw [← hw5, ← hz4, ← hrb]
    clear hw5 hrb hz4
    generalize hvb : w4.heap.size = vb
    have HVB := Lib.hid hvb
    clear hvb
    go_loopg [] (s.size + 1) (fun f wx => ∃ (p g : Nat) (csb : Array Value) (v : Value) (acc : List UInt8), f + p = s.size + 1 ∧ p ≤ s.size ∧ s.size < p + g ∧ acc.length ≤ 4 * p ∧ unescX s = unF s g p ⟨acc.toArray⟩ ∧ Moved rb s #[.string s, .int .i64 0, .slice none 0 0, .slice none 0 0, .pointer none, .slice none 0 0, .int .i64 0] w4 p wx ∧ Bld w4.heap.size vb 0 70 csb v acc wx)
    case atStart => exact ⟨0, s.size + 1, _, _, [], by omega, Nat.zero_le _, by omega, by simp, HX0.out, HM5.out, by have h := HB5.out; rw [HVB.out] at h ⊢; exact h⟩
    case round =>
      obtain ⟨p, g, csb, v, acc, hg, hp, hgf, hacc, hb, hM, hBl⟩ := hrel
      obtain ⟨g, rfl⟩ : ∃ k, g = k + 1 := ⟨g - 1, by omega⟩
      have c1 := hM.1.cell1
      have HG := Lib.hid (And.intro hg (And.intro hgf hacc)); have HM := Lib.hid hM; have HBL := Lib.hid hBl; have HB := Lib.hid hb
      have hp0 : (0 : Int) ≤ p := by omega
      have hpI : (p : Int) ≤ s.size := by omega
      clear hg hgf hacc hM hBl hb
      by_cases hend : s.size ≤ p
      · have hI : ¬ (p : Int) < s.size := by omega
        have HX := Lib.hid (HB.out.trans (unF_end hend))
        have hstr := bString HBL.out
        have hN := HTA.out.nmk HM.out.2
        have HN := Lib.hid hN
        have hown : ∀ j, v.ownBlock = some j → w4.heap.size ≤ j := fun j hj => (HBL.out.own_lt hj).1
        have HOWN := Lib.hid hown
        clear hend hN hown
        go_wp2_with fail
        refine hstr.mono ?_
        rintro e w8 ⟨rfl, hKV⟩
        have hrb := HTA.out.rb
        have hlr := HTA.out.lr
        have hsr := HTA.out.sr
        have hN8 : NmU w.heap.size (w.heap.size + 1) w8 := ⟨(hKV.block _ (lt_some HN.out.1) (fun e => by have := HOWN.out _ e; omega)).trans HN.out.1, (hKV.block _ (lt_some HN.out.2) (fun e => by have := HOWN.out _ e; omega)).trans HN.out.2⟩
        have n3 : w.heap.size ≠ w.heap.size + 1 := by omega
        have cl : w8.cell? ⟨w.heap.size, 0, none⟩ = some (.string ⟨#[]⟩) := cellH hN8.1 0
        have cs0 : w8.cell? ⟨w.heap.size + 1, 0, none⟩ = some (.int .i64 0) := cellH hN8.2 0
        have cs1 : w8.cell? ⟨w.heap.size + 1, 1, none⟩ = some (.int .i64 0) := cellH hN8.2 1
        have fl := freeH hN8.1 0
        have fs0 := freeH hN8.2 0
        have fs1 := freeH hN8.2 1
        have HC := Lib.hid (caught_of (lv := .string ⟨acc.toArray⟩) (e := 0) (a := 0) (Below.refl w8.heap.size w8) cl cs0 cs1 n3)
        have hK8 : KeepX w4.heap.size rb w4 w8 := HM.out.2.trans ⟨hKV.os, hKV.tape, hKV.output, hKV.size, fun k hk hx => hKV.block k (Nat.lt_of_lt_of_le hk HM.out.2.size) (fun e => by have := HOWN.out _ e; omega)⟩
        have HB8 := Lib.hid (HTA.out.belk hK8)
        clear hN8 hKV hK8 hstr
        go_wp2_with fail
        have hC := HC.out
        refine un_good (lb := w.heap.size) (sb := w.heap.size + 1) rfl rfl hC.l hC.s0 hC.s1 ?_
        unfold UnEnd
        rw [HX.out]
        exact ⟨rfl, HB8.out.trans ⟨hC.os, hC.tape, hC.output, hC.size, fun j hj => hC.block j (Nat.lt_of_lt_of_le hj HB8.out.size) (by omega) (by omega)⟩⟩
      · have hI : (p : Int) < s.size := by omega
        have hbt := get_bt s
        by_cases h60 : bt s p = 60
        · have HDX := Lib.hid (HB.out.trans (unF_bad hend h60))
          have hwn := want_no HM.out.1
          clear hend
          go_wp2_with fail
          refine hwn.mono ?_
          rintro e w' ⟨rfl, rfl⟩
          go_wp2_with fail
          exact HTA.out.dead rfl rfl HM.out.2 HDX.out
        · have h60n : (bt s p == 60) = false := by simpa using h60
          have h60n2 : (bt s p != 60) = true := by simpa using h60
          have he0 := HB.out.trans (unF_go hend h60)
          have hru := rune_own HM.out HTA.out.rb (by rw [HVB.out]; exact Nat.le_refl _) HBL.out hp hz (HG4.out _ HM.out.2) HG.out.2.2
          have HE := Lib.hid he0; have HRU := Lib.hid hru
          clear he0 hru hend h60
          go_wp2_with fail
          refine (hwy _ _).mono ?_
          rintro e w' ⟨rfl, rfl⟩
          go_wp2_with fail
          refine HRU.out.mono ?_
          clear HRU
          intro e wz hE
          unfold OwnEnd at hE
          cases hpx : pieceX s p with
          | bad ee aa =>
            rw [hpx] at hE
            obtain ⟨rfl, hKz⟩ := hE
            have hx := HE.out
            rw [hpx] at hx
            have HDX := Lib.hid (show unescX s = .bad ee aa from hx)
            clear hx hpx
            go_wp2_with fail
            exact HTA.out.dead rfl rfl hKz HDX.out
          | ok q b =>
            rw [hpx] at hE
            obtain ⟨rfl, hMn, csb', v', hBn⟩ := hE
            obtain ⟨hq1, hq2, hq3⟩ := piece_in hpx hp
            have hx := HE.out
            rw [hpx] at hx
            have hx2 : unescX s = unF s g q (⟨acc.toArray⟩ ++ b) := hx
            rw [toA_append] at hx2
            have hlen : (acc ++ b.data.toList).length ≤ 4 * q := by
              rw [List.length_append]
              have := HG.out.2.2
              have e : b.data.toList.length = b.size := rfl
              omega
            have HXX := Lib.hid hx2; have HMN := Lib.hid hMn; have HBN := Lib.hid hBn; have HQ := Lib.hid (And.intro hq1 hlen)
            clear hx hx2 hMn hBn hpx hq1 hq3 hlen
            go_wp2_with fail
            go_roundg (s.size + 1 - q)
            case rel => exact ⟨q, g, csb', v', acc ++ b.data.toList, by omega, hq2, by have := HG.out; have := HQ.out.1; omega, HQ.out.2, HXX.out, HMN.out, HBN.out⟩
            case measure => have := HG.out; have := HQ.out.1; omega
end Go.Proofs.YtnmpbphnfiiafaaGreatDoor
