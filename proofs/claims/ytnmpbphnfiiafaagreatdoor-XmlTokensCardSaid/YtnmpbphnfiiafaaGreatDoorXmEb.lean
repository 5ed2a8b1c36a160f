/-
  The reader of files: the end of an element.
-/
import Derived.Test.YtnmpbphnfiiafaaGreatDoorXmEa
namespace Go.Proofs.YtnmpbphnfiiafaaGreatDoor
open Go.RowKit Go.PlainAid

/-- What end comes to. -/
def EndEnd (lo rb : Nat) (s : ByteArray) (at_ : Nat) (bp tv : Value) (fr : Int) (out : List Tk) (pile : List ByteArray) (text : List UInt8) (w : World) (x : Xr ByteArray) (en : Ending) (w' : World) : Prop :=
  match x with
  | .bad e a => en = Died e a ∧ KeepX lo rb w w'
  | .ok q nm => en = .returned (.tuple #[]) ∧ KeepX lo rb w w' ∧ ∃ ov pv, RdS lo rb s q ov pv bp tv fr (out ++ [⟨2, nm, [], ⟨#[]⟩, at_⟩]) pile.dropLast text w'
theorem endX_bad {s : ByteArray} {p a : Nat} {top : ByteArray} {e : Int} (h : nameX s (p + 2) = .bad e a) : endX s p top = .bad e a := by unfold endX; rw [h]
theorem endX_other {s : ByteArray} {p q : Nat} {top nm : ByteArray} (h : nameX s (p + 2) = .ok q nm) (hn : ¬ nm = top) : endX s p top = .bad 143 p := by unfold endX; rw [h]; simp only; rw [if_neg hn]
theorem endX_go {s : ByteArray} {p q k : Nat} {top nm : ByteArray} (h : nameX s (p + 2) = .ok q nm) (hn : nm = top) (hk : blk s q = k) : endX s p top = if bt s k = 62 then .ok (k + 1) nm else .bad 140 k := by subst hk; unfold endX; rw [h]; simp only; rw [if_pos hn]

set_option maxRecDepth 100000 in
set_option maxHeartbeats 8000000 in
theorem end_any {lo rb : Nat} {s : ByteArray} {at_ : Nat} {ov pv bp tv : Value} {fr : Int} {out : List Tk} {pile : List ByteArray} {text : List UInt8} {w : World} (h : RdS lo rb s at_ ov pv bp tv fr out pile text w) (ha : at_ + 2 ≤ s.size) (hz : s.size ≤ 4000000000) (hol : out.length ≤ 10000000) (hpl : pile.length ≤ 64) (hp0 : pile ≠ []) :
    Calls Tryz.prog 72 #[.pointer (some ⟨rb, 0, none⟩)] w fun en w' => EndEnd lo rb s at_ bp tv fr out pile text w (endX s at_ (pile.getLastD ⟨#[]⟩)) en w' := by
  obtain ⟨p, top, rfl⟩ : ∃ p x, pile = p ++ [x] := ⟨pile.dropLast, pile.getLast hp0, (List.dropLast_concat_getLast _).symm⟩
  have hgl : (p ++ [top]).getLastD ⟨#[]⟩ = top := by simp
  rw [hgl]
  obtain ⟨m, hm⟩ : ∃ m, p.length = m := ⟨_, rfl⟩
  have hpr := h.pile.read
  rcases hpr with ⟨e, _⟩ | ⟨pg, pc, hpv, hpg1, hpg2, hcap, hmax, hcell⟩
  · simp at e
  have hct := hcell m (by simp; omega) 0 (by decide)
  have hget : (p ++ [top])[m]'(by simp; omega) = top := by subst hm; simp
  rw [hget, show m * StrE.sz + 0 = m by simp [StrE]] at hct
  change w.cell? ⟨pg, m, none⟩ = some (.string top) at hct
  rw [List.length_append, List.length_singleton, hm] at hpv hcap
  subst hpv
  have c1 := h.rdr.cell1
  have hlt := h.blk.lt'
  have f1 : IntKind.i64.wrap ((at_ : Int) + 2) = ((at_ + 2 : Nat) : Int) := by rw [IntWalk.i64_in _ (by omega)]; omega
  have hne : w.heap.size ≠ rb := by omega
  have hne' : rb ≠ w.heap.size := by omega
  have hsz : (w.setCell ⟨rb, 1, none⟩ (.int .i64 ((at_ + 2 : Nat) : Int))).heap.size = w.heap.size := by simp [World.setCell]
  have hM1 := ((h.rdr.moved (Below.refl _ _)).set (at_ + 2)).on ((Below.refl _ _).alloc (Nat.le_refl _) (.cells #[.int .i64 2, .string ⟨#[]⟩, .slice none 0 0, .string ⟨#[]⟩, .int .i64 (at_ : Int)] 45))
  have hT1 := Blk.new' (w.setCell ⟨rb, 1, none⟩ (.int .i64 ((at_ + 2 : Nat) : Int))) #[.int .i64 2, .string ⟨#[]⟩, .slice none 0 0, .string ⟨#[]⟩, .int .i64 (at_ : Int)] 45 w.heap.size hsz.symm
  have d0 := h.blk.free 1
  have hnm := rdName_any hM1.1 ha (by omega)
  have hlo := h.bld.lo
  have hrbl := h.rb
  have hml : m ≤ 100 := by rw [List.length_append, List.length_singleton, hm] at hpl; omega
  have HH := Lib.hid h; have HM1 := Lib.hid hM1; have HT1 := Lib.hid hT1; have HLO := Lib.hid hlo; have HM := Lib.hid hm; have HCT := Lib.hid hct; have HPG := Lib.hid (And.intro hpg1 hpg2); have HRBL := Lib.hid hrbl; have HNE := Lib.hid hne
  clear h hM1 hT1 hsz hlo hm hct hcell hpg1 hpg2 hp0 hget hgl hrbl
  obtain ⟨R, hRX⟩ : ∃ R, endX s at_ top = R := ⟨_, rfl⟩
  rw [hRX]
  have HRX := Lib.hid hRX
  clear hRX
  cases hx : nameX s (at_ + 2) with
  | bad ee aa =>
    have HX := Lib.hid (HRX.out.symm.trans (endX_bad hx))
    go_enter Tryz.func72, Tryz.ntmps72
    go_wp2_with fail
    refine hnm.mono ?_
    intro e w2 hE
    unfold StepEnd at hE
    rw [hx] at hE
    obtain ⟨rfl, hK⟩ := hE
    go_wp2_with fail
    refine ⟨rfl, ?_⟩
    rw [HX.out]
    exact ⟨rfl, (HM1.out.2.trans (hK.mono HM1.out.2.size)).mono HLO.out⟩
  | ok q nm =>
    obtain ⟨hq1, hq2⟩ := nameX_in hx ha
    have HX0 := Lib.hid hx
    go_enter Tryz.func72, Tryz.ntmps72
    go_wp2_with fail
    refine hnm.mono ?_
    intro e w2 hE
    unfold StepEnd at hE
    rw [hx] at hE
    obtain ⟨rfl, hM⟩ := hE
    have hM2 := HM1.out.trans hM
    have hT2 : Blk w2 w.heap.size #[.int .i64 2, .string ⟨#[]⟩, .slice none 0 0, .string ⟨#[]⟩, .int .i64 (at_ : Int)] := by
      obtain ⟨t, ht⟩ := HT1.out
      exact ⟨t, (hM.2.block _ (lt_some ht) hne).trans ht⟩
    have t1 : w2.cell? ⟨w.heap.size, 1, none⟩ = some (.string ⟨#[]⟩) := hT2.cell 1
    have t0 := hT2.free 1
    have c3 : w2.cell? ⟨rb, 3, none⟩ = some (.slice (some ⟨pg, 0, none⟩) (m + 1) pc) := hM2.1.blk.cell 3
    have f2 : IntKind.i64.wrap ((m : Int) + 1 - 1) = (m : Int) := by rw [IntWalk.i64_in _ (by omega)]; omega
    have f3 : IntKind.i64.wrap (m : Int) = (m : Int) := IntWalk.i64_in _ (by omega)
    have hm0 : (0 : Int) ≤ m := by omega
    have hm1 : (m : Int) < (m : Int) + 1 := by omega
    clear hM hnm d0 c1 f1
    go_upto_region 4 with fail
    have hrb5 : (w2.setCell ⟨w.heap.size, 1, none⟩ (.string nm)).heap[rb]? = w2.heap[rb]? := Below.heap_setCell _ _ _ _ hne'
    have hM3 : Moved rb s #[.string s, .int .i64 (at_ : Int), ov, .slice (some ⟨pg, 0, none⟩) (m + 1) pc, bp, tv, .int .i64 fr] w q (w2.setCell ⟨w.heap.size, 1, none⟩ (.string nm)) :=
      ⟨⟨hrb5.trans hM2.1.blk, hM2.1.c0, hM2.1.c1⟩, hM2.2.trans ⟨rfl, rfl, rfl, by simp [World.setCell], fun g hg _ => Below.heap_setCell _ _ _ _ (by simp; omega)⟩⟩
    have hT3 : Blk (w2.setCell ⟨w.heap.size, 1, none⟩ (.string nm)) w.heap.size #[Value.int .i64 2, Value.string nm, Value.slice none 0 0, Value.string ⟨#[]⟩, Value.int .i64 (at_ : Int)] := hT2.set 1 _
    clear hrb5 hM2 hT2 t1 t0 c3
    generalize w2.setCell ⟨w.heap.size, 1, none⟩ (.string nm) = W3 at *
    have c3 : W3.cell? ⟨rb, 3, none⟩ = some (.slice (some ⟨pg, 0, none⟩) (m + 1) pc) := hM3.1.blk.cell 3
    have t1 : W3.cell? ⟨w.heap.size, 1, none⟩ = some (.string nm) := hT3.cell 1
    have t4 : W3.cell? ⟨w.heap.size, 4, none⟩ = some (.int .i64 (at_ : Int)) := hT3.cell 4
    have ct : W3.cell? ⟨pg, m, none⟩ = some (.string top) := (World.cell?_of_block (hM3.2.block pg HPG.out.2 (by have := HPG.out.1; have := HRBL.out; omega))).trans HCT.out
    have hqe := bytes_eqb top nm
    have HM3 := Lib.hid hM3; have HT3 := Lib.hid hT3
    clear hM3 hT3
    by_cases hnt : nm = top
    · obtain ⟨k, hk⟩ : ∃ k, blk s q = k := ⟨_, rfl⟩
      have hks := blk_le s q hq2
      have hkq := blk_ge s q
      rw [hk] at hks hkq
      rw [decide_eq_true hnt.symm] at hqe
      have hx := HRX.out.symm.trans (endX_go HX0.out hnt hk)
      have HXK := Lib.hid hx
      have hbk : ∀ W, Moved rb s #[.string s, .int .i64 (at_ : Int), ov, .slice (some ⟨pg, 0, none⟩) (m + 1) pc, bp, tv, .int .i64 fr] w q W → Calls Tryz.prog 67 #[.pointer (some ⟨rb, 0, none⟩)] W fun en w' => (∃ b, en = .returned (.bool b)) ∧ Moved rb s #[.string s, .int .i64 (at_ : Int), ov, .slice (some ⟨pg, 0, none⟩) (m + 1) pc, bp, tv, .int .i64 fr] w k w' ∧ (Blk W w.heap.size #[Value.int .i64 2, Value.string nm, Value.slice none 0 0, Value.string ⟨#[]⟩, Value.int .i64 (at_ : Int)] → Blk w' w.heap.size #[Value.int .i64 2, Value.string nm, Value.slice none 0 0, Value.string ⟨#[]⟩, Value.int .i64 (at_ : Int)]) := fun W hM => by
        have h1 := blanks_any hM.1 hq2 (by omega)
        rw [hk] at h1
        refine h1.mono fun e w' ⟨he, hM'⟩ => ⟨⟨_, he⟩, hM.trans hM', fun ⟨t, ht⟩ => ⟨t, (hM'.2.block _ (lt_some ht) HNE.out).trans ht⟩⟩
      have HBK := Lib.hid hbk
      clear hx hk hbk hnt
      go_quiet (fail)
      have hM4 := HM3.out.on (bdN0 (Below.refl _ _) nq)
      have hT4 := HT3.out.on (bdN0 (Below.refl _ _) nq)
      clear c3 t1 t4 ct
      generalize W3.drewN nq = W4 at *
      have hb4 := HBK.out _ hM4
      have HT4 := Lib.hid hT4
      clear hM4 hT4
      go_wp2_with fail
      refine hb4.mono ?_
      rintro e w5 ⟨⟨b, rfl⟩, hM5, hT5⟩
      have hT5 := hT5 HT4.out
      have hnx := next_any hM5.1 hks
      have HM5 := Lib.hid hM5; have HT5 := Lib.hid hT5
      clear hM5 hT5 hb4
      by_cases h62 : bt s k = 62
      · have HX := Lib.hid (HXK.out.trans (if_pos h62))
        rw [h62] at hnx
        have hks2 : k < s.size := by
          by_cases hp : k < s.size
          · exact hp
          · rw [bt_end s (by omega)] at h62; omega
        have hwy := fun W => want_yes (.pointer (some ⟨rb, 0, none⟩)) W
        clear h62
        go_wp2_with fail
        refine hnx.mono ?_
        rintro e w6 ⟨rfl, hB6⟩
        have hM6 := HM5.out.on hB6
        have hT6 := HT5.out.on hB6
        have d1 := hM6.1.cell1
        have d0 := hM6.1.blk.free 1
        have f1 : IntKind.i64.wrap ((k : Int) + 1) = ((k + 1 : Nat) : Int) := by rw [IntWalk.i64_in _ (by omega)]; omega
        clear hnx
        go_wp2_with fail
        refine (hwy _).mono ?_
        rintro e w' ⟨rfl, rfl⟩
        go_upto_region 9 with fail
        have hM7 : Moved rb s #[.string s, .int .i64 (at_ : Int), ov, .slice (some ⟨pg, 0, none⟩) (m + 1) pc, bp, tv, .int .i64 fr] w (k + 1) (w6.setCell ⟨rb, 1, none⟩ (.int .i64 ((k : Int) + 1))) := hM6.set (k + 1)
        have hT7 : Blk (w6.setCell ⟨rb, 1, none⟩ (.int .i64 ((k : Int) + 1))) w.heap.size #[Value.int .i64 2, Value.string nm, Value.slice none 0 0, Value.string ⟨#[]⟩, Value.int .i64 (at_ : Int)] := hT6.other rb 1 _ HNE.out
        clear hM6 hT6 d0 d1 f1 hB6
        generalize w6.setCell ⟨rb, 1, none⟩ (.int .i64 ((k : Int) + 1)) = W7 at *
        have c3 : W7.cell? ⟨rb, 3, none⟩ = some (.slice (some ⟨pg, 0, none⟩) (m + 1) pc) := hM7.1.blk.cell 3
        have d3 := hM7.1.blk.free 3
        have hcI : (m : Int) ≤ pc := by omega
        go_upto_region 10 with fail
        have hR8 := (HH.out.moved hM7).popped
        have hK8 : KeepX lo rb w (W7.setCell ⟨rb, 3, none⟩ (.slice (some ⟨pg, 0, none⟩) m pc)) := (HH.out.keep hM7).setCell _ _
        have hT8 : Blk (W7.setCell ⟨rb, 3, none⟩ (.slice (some ⟨pg, 0, none⟩) m pc)) w.heap.size #[Value.int .i64 2, Value.string nm, Value.slice none 0 0, Value.string ⟨#[]⟩, Value.int .i64 (at_ : Int)] := hT7.other rb 3 _ HNE.out
        generalize W7.setCell ⟨rb, 3, none⟩ (.slice (some ⟨pg, 0, none⟩) m pc) = W at *
        obtain ⟨ms, hrow0, hms2, hms3⟩ := hR8.out
        have hovl : ∀ g, ov.ownBlock = some g → g < w.heap.size := fun g hg => by
          obtain ⟨_, c, hc⟩ := HH.out.out.own g hg
          exact lt_some hc
        have HOV := Lib.hid hovl
        obtain ⟨oa, on, oc, hov⟩ := hrow0.form'
        subst hov
        have hrlt := hR8.blk.lt'
        have c2 : W.cell? ⟨rb, 2, none⟩ = some (.slice oa on oc) := hR8.blk.cell 2
        have hR8d := hR8.on (Below.refl _ _).drew
        have hT8d := hT8.on (Below.refl _ _).drew
        have hSD : ∀ o, W.drew.cell? ⟨w.heap.size, o, none⟩ = #[Value.int .i64 2, Value.string nm, Value.slice none 0 0, Value.string ⟨#[]⟩, Value.int .i64 (at_ : Int)][o]? := hT8d.cell
        have hSA : ∀ o, (W.drew.alloc (.cells #[.int .i64 2, .string nm, .slice none 0 0, .string ⟨#[]⟩, .int .i64 (at_ : Int)] 45)).cell? ⟨w.heap.size, o, none⟩ = #[Value.int .i64 2, Value.string nm, Value.slice none 0 0, Value.string ⟨#[]⟩, Value.int .i64 (at_ : Int)][o]? := (hT8d.alloc _).cell
        have hrowA : GRow TkE lo (W.drew.alloc (.cells #[.int .i64 2, .string nm, .slice none 0 0, .string ⟨#[]⟩, .int .i64 (at_ : Int)] 45)) (.slice oa on oc) ms := (hrow0.on (Below.refl _ _).drew).on ((Below.refl _ _).alloc (Nat.le_refl _) _)
        have hbase : lo ≤ (W.drew.alloc (.cells #[.int .i64 2, .string nm, .slice none 0 0, .string ⟨#[]⟩, .int .i64 (at_ : Int)] 45)).heap.size := Nat.le_trans hR8d.bld.lo (by simp)
        have hlen : ms.length ≤ 100000000 := by omega
        have hms3d : ∀ j (h : j < ms.length) (h' : j < out.length), TkOk lo W.drew ms[j] out[j] := fun j h h' => (hms3 j h h').later (fun g c _ hc => rfl)
        have htok : ∀ j (h : j < [(⟨2, nm, none, 0, 0, ⟨#[]⟩, at_⟩ : TkM)].length) (h' : j < [(⟨2, nm, [], ⟨#[]⟩, at_⟩ : Tk)].length), TkOk lo W.drew [(⟨2, nm, none, 0, 0, ⟨#[]⟩, at_⟩ : TkM)][j] [(⟨2, nm, [], ⟨#[]⟩, at_⟩ : Tk)][j] := fun j h h' => by
          obtain rfl : j = 0 := by simp at h; omega
          exact ⟨rfl, rfl, rfl, rfl, GRow.nil _ _ _⟩
        have hpk0 : ∀ v' w6, GRow TkE lo w6 v' (ms ++ [(⟨2, nm, none, 0, 0, ⟨#[]⟩, at_⟩ : TkM)]) → (W.drew.alloc (.cells #[.int .i64 2, .string nm, .slice none 0 0, .string ⟨#[]⟩, .int .i64 (at_ : Int)] 45)).grownBy w6 (Value.slice oa on oc).ownBlock → w6.frozen? ⟨rb, 2, none⟩ = false ∧ w6.cell? ⟨rb, 2, none⟩ = some (.slice oa on oc) ∧ (∀ o, w6.cell? ⟨w.heap.size, o, none⟩ = #[Value.int .i64 2, Value.string nm, Value.slice none 0 0, Value.string ⟨#[]⟩, Value.int .i64 (at_ : Int)][o]?) ∧ (∀ o, (w6.setCell ⟨rb, 2, none⟩ v').cell? ⟨w.heap.size, o, none⟩ = #[Value.int .i64 2, Value.string nm, Value.slice none 0 0, Value.string ⟨#[]⟩, Value.int .i64 (at_ : Int)][o]?) ∧
            RdS lo rb s (k + 1) v' (.slice (some ⟨pg, 0, none⟩) m pc) bp tv fr (out ++ [(⟨2, nm, [], ⟨#[]⟩, at_⟩ : Tk)]) (p ++ [top]).dropLast text (w6.setCell ⟨rb, 2, none⟩ v') ∧ KeepX lo rb w (w6.setCell ⟨rb, 2, none⟩ v') := fun v' w6 hr hg => by
          obtain ⟨hk, hRn, hKn⟩ := hR8d.told hms2 hms3d rfl htok hr hg
          have hb6 := (hk rb hR8d.blk.lt' (fun e => by have := (hR8d.out.own rb e).1; have := hR8d.rb; omega)).trans hR8d.blk
          have ht6 : Blk w6 w.heap.size #[Value.int .i64 2, Value.string nm, Value.slice none 0 0, Value.string ⟨#[]⟩, Value.int .i64 (at_ : Int)] := by
            obtain ⟨t, ht⟩ := hT8d
            exact ⟨t, (hk _ (lt_some ht) (fun e => by have := HOV.out _ e; omega)).trans ht⟩
          exact ⟨freeH hb6 2, cellH hb6 2, ht6.cell, (ht6.other rb 2 v' HNE.out).cell, hRn, hK8.trans ((KeepX.of (Below.refl _ _).drew (Nat.le_refl _)).trans hKn)⟩
        have HPK := Lib.hid (show ∀ v' w6, GRow TkE lo w6 v' (ms ++ [(⟨2, nm, none, 0, 0, ⟨#[]⟩, at_⟩ : TkM)]) → (W.drew.alloc (.cells #[.int .i64 2, .string nm, .slice none 0 0, .string ⟨#[]⟩, .int .i64 (at_ : Int)] 45)).grownBy w6 (Value.slice oa on oc).ownBlock → w6.frozen? ⟨rb, 2, none⟩ = false ∧ w6.cell? ⟨rb, 2, none⟩ = some (.slice oa on oc) ∧ (∀ o, w6.cell? ⟨w.heap.size, o, none⟩ = #[Value.int .i64 2, Value.string nm, Value.slice none 0 0, Value.string ⟨#[]⟩, Value.int .i64 (at_ : Int)][o]?) ∧ (∀ o, (w6.setCell ⟨rb, 2, none⟩ v').cell? ⟨w.heap.size, o, none⟩ = #[Value.int .i64 2, Value.string nm, Value.slice none 0 0, Value.string ⟨#[]⟩, Value.int .i64 (at_ : Int)][o]?) from fun v' w6 hr hg => ⟨(hpk0 v' w6 hr hg).1, (hpk0 v' w6 hr hg).2.1, (hpk0 v' w6 hr hg).2.2.1, (hpk0 v' w6 hr hg).2.2.2.1⟩)
        have HR9 := Lib.hid (fun v' w6 hr hg => (hpk0 v' w6 hr hg).2.2.2.2)
        have HSD := Lib.hid hSD; have HSA := Lib.hid hSA; have HROWA := Lib.hid hrowA
        clear hpk0 hR8 hR8d hT8 hT8d hK8 hSD hSA hrowA hms3 hms3d htok hrow0 hms2 hM7 hT7 c3 d3 hovl
        refine wp_region_held_drew (S := fun w' => ∀ o, w'.cell? ⟨w.heap.size, o, none⟩ = #[Value.int .i64 2, Value.string nm, Value.slice none 0 0, Value.string ⟨#[]⟩, Value.int .i64 (at_ : Int)][o]?) (by kernel_rfl) (HSD.out) (fun hHeld => ?_)
        refine wpAnyH_take (i := 0) (v := ?_) rfl (by kernel_rfl) (by kernel_rfl) (by kernel_rfl) (fun _ _ _ h => h) (Or.inl ⟨by rfl, ?_⟩) hHeld ?_
        rotate_left
        · intro w hSw; (try dsimp only at hSw); first | (go_simp; done) | (go_simp; with_reducible rfl)
        try simp only [Act.put, List.setIfInBounds_toArray, List.set_cons_zero, List.set_cons_succ, List.getElem_toArray, List.getElem_cons_zero]
        refine wpAnyH_take (i := 1) (v := ?_) rfl (by kernel_rfl) (by kernel_rfl) (by kernel_rfl) (fun _ _ _ h => h) (Or.inl ⟨by rfl, ?_⟩) hHeld ?_
        rotate_left
        · intro w hSw; (try dsimp only at hSw); first | (go_simp; done) | (go_simp; with_reducible rfl)
        try simp only [Act.put, List.setIfInBounds_toArray, List.set_cons_zero, List.set_cons_succ, List.getElem_toArray, List.getElem_cons_zero, List.getElem_cons_succ]
        refine wpAnyH_take (i := 2) (v := ?_) rfl (by kernel_rfl) (by kernel_rfl) (by kernel_rfl) (fun _ _ _ h => h) (Or.inl ⟨by rfl, ?_⟩) hHeld ?_
        rotate_left
        · intro w hSw; (try dsimp only at hSw); first | (go_simp; done) | (go_simp; with_reducible rfl)
        try simp only [Act.put, List.setIfInBounds_toArray, List.set_cons_zero, List.set_cons_succ, List.getElem_toArray, List.getElem_cons_zero, List.getElem_cons_succ]
        refine wpAnyH_take (i := 3) (v := ?_) rfl (by kernel_rfl) (by kernel_rfl) (by kernel_rfl) (fun _ _ _ h => h) (Or.inl ⟨by rfl, ?_⟩) hHeld ?_
        rotate_left
        · intro w hSw; (try dsimp only at hSw); first | (go_simp; done) | (go_simp; with_reducible rfl)
        try simp only [Act.put, List.setIfInBounds_toArray, List.set_cons_zero, List.set_cons_succ, List.getElem_toArray, List.getElem_cons_zero, List.getElem_cons_succ]
        refine wpAnyH_take (i := 5) (v := ?_) rfl (by kernel_rfl) (by kernel_rfl) (by kernel_rfl) (fun _ _ _ h => h) (Or.inl ⟨by rfl, ?_⟩) hHeld ?_
        rotate_left
        · intro w hSw; (try dsimp only at hSw); first | (go_simp; done) | (go_simp; with_reducible rfl)
        try simp only [Act.put, List.setIfInBounds_toArray, List.set_cons_zero, List.set_cons_succ, List.getElem_toArray, List.getElem_cons_zero, List.getElem_cons_succ]
        refine wpAnyH_ready (rs := [4, 6]) (by kernel_rfl) (by simp) ?_
        refine AllReadyH.cons rfl (fun K hK => ?_) ?_
        go_simp
        refine hK.out _ _ (HSD.out) (fun hHeld => ?_)
        clear hK K
        refine wpAnyH_ready (rs := [6]) (by kernel_rfl) (by simp) ?_
        refine AllReadyH.cons rfl (fun K hK => ?_) AllReadyH.nil
        go_simp
        refine hK.out _ _ (HSA.out) (fun hHeld => ?_)
        clear hK K
        refine wpAnyH_ready (rs := [7]) (by kernel_rfl) (by simp) ?_
        refine AllReadyH.cons rfl (fun K hK => ?_) AllReadyH.nil
        (refine step_snoc_g TkE (x := ⟨2, nm, none, 0, 0, ⟨#[]⟩, at_⟩) rfl _ _ rfl lo (.slice oa on oc) ms rfl HROWA.out 1 _ rfl (Blk.new _ _ _) hlen hbase ?_; intro v' w6 hrow6 hg6; obtain ⟨a', n', c', rfl⟩ := hrow6.form'; obtain ⟨f6, c6, hS6, hS6'⟩ := HPK.out _ _ hrow6 hg6)
        refine hK.out _ _ (hS6) (fun hHeld => ?_)
        clear hK K
        refine wpAnyH_take (i := 8) (v := ?_) rfl (by kernel_rfl) (by kernel_rfl) (by kernel_rfl) (fun _ _ _ h => h) (Or.inl ⟨by rfl, ?_⟩) hHeld ?_
        rotate_left
        · intro w hSw; (try dsimp only at hSw); first | (go_simp; done) | (go_simp; with_reducible rfl)
        try simp only [Act.put, List.setIfInBounds_toArray, List.set_cons_zero, List.set_cons_succ, List.getElem_toArray, List.getElem_cons_zero, List.getElem_cons_succ]
        refine wpAnyH_take (i := 9) (v := ?_) rfl (by kernel_rfl) (by kernel_rfl) (by kernel_rfl) (fun _ _ _ h => h) (Or.inl ⟨by rfl, ?_⟩) hHeld ?_
        rotate_left
        · intro w hSw; (try dsimp only at hSw); first | (go_simp; done) | (go_simp; with_reducible rfl)
        try simp only [Act.put, List.setIfInBounds_toArray, List.set_cons_zero, List.set_cons_succ, List.getElem_toArray, List.getElem_cons_zero, List.getElem_cons_succ]
        refine wpAnyH_ready (rs := [10]) (by kernel_rfl) (by simp) ?_
        refine AllReadyH.cons rfl (fun K hK => ?_) AllReadyH.nil
        go_simp
        refine hK.out _ _ (hS6') (fun hHeld => ?_)
        clear hK K
        refine wpAnyH_done (by kernel_rfl) ?_ _
        go_wp2_with fail
        have hE := HR9.out _ _ hrow6 hg6
        go_end0
        rw [HX.out]
        exact ⟨rfl, hE.2, _, _, hE.1⟩
        refine AllReadyH.cons rfl (fun K hK => ?_) ?_
        go_simp
        refine hK.out _ _ (HSA.out) (fun hHeld => ?_)
        clear hK K
        refine wpAnyH_ready (rs := [4]) (by kernel_rfl) (by simp) ?_
        refine AllReadyH.cons rfl (fun K hK => ?_) AllReadyH.nil
        go_simp
        refine hK.out _ _ (HSA.out) (fun hHeld => ?_)
        clear hK K
        refine wpAnyH_ready (rs := [7]) (by kernel_rfl) (by simp) ?_
        refine AllReadyH.cons rfl (fun K hK => ?_) AllReadyH.nil
        (refine step_snoc_g TkE (x := ⟨2, nm, none, 0, 0, ⟨#[]⟩, at_⟩) rfl _ _ rfl lo (.slice oa on oc) ms rfl HROWA.out 1 _ rfl (Blk.new _ _ _) hlen hbase ?_; intro v' w6 hrow6 hg6; obtain ⟨a', n', c', rfl⟩ := hrow6.form'; obtain ⟨f6, c6, hS6, hS6'⟩ := HPK.out _ _ hrow6 hg6)
        refine hK.out _ _ (hS6) (fun hHeld => ?_)
        clear hK K
        refine wpAnyH_take (i := 8) (v := ?_) rfl (by kernel_rfl) (by kernel_rfl) (by kernel_rfl) (fun _ _ _ h => h) (Or.inl ⟨by rfl, ?_⟩) hHeld ?_
        rotate_left
        · intro w hSw; (try dsimp only at hSw); first | (go_simp; done) | (go_simp; with_reducible rfl)
        try simp only [Act.put, List.setIfInBounds_toArray, List.set_cons_zero, List.set_cons_succ, List.getElem_toArray, List.getElem_cons_zero, List.getElem_cons_succ]
        refine wpAnyH_take (i := 9) (v := ?_) rfl (by kernel_rfl) (by kernel_rfl) (by kernel_rfl) (fun _ _ _ h => h) (Or.inl ⟨by rfl, ?_⟩) hHeld ?_
        rotate_left
        · intro w hSw; (try dsimp only at hSw); first | (go_simp; done) | (go_simp; with_reducible rfl)
        try simp only [Act.put, List.setIfInBounds_toArray, List.set_cons_zero, List.set_cons_succ, List.getElem_toArray, List.getElem_cons_zero, List.getElem_cons_succ]
        refine wpAnyH_ready (rs := [10]) (by kernel_rfl) (by simp) ?_
        refine AllReadyH.cons rfl (fun K hK => ?_) AllReadyH.nil
        go_simp
        refine hK.out _ _ (hS6') (fun hHeld => ?_)
        clear hK K
        refine wpAnyH_done (by kernel_rfl) ?_ _
        go_wp2_with fail
        have hE := HR9.out _ _ hrow6 hg6
        go_end0
        rw [HX.out]
        exact ⟨rfl, hE.2, _, _, hE.1⟩
        exact AllReadyH.nil
      · have h62' : (bt s k == 62) = false := by simpa using h62
        have HX := Lib.hid (HXK.out.trans (if_neg h62))
        clear h62
        go_wp2_with fail
        refine hnx.mono ?_
        rintro e w6 ⟨rfl, hB6⟩
        have hM6 := HM5.out.on hB6
        have hwn := want_no hM6.1
        have HK6 := Lib.hid (HH.out.keep hM6)
        clear hM6 hnx hB6
        go_wp2_with fail
        refine hwn.mono ?_
        rintro e w' ⟨rfl, rfl⟩
        go_wp2_with fail
        refine ⟨rfl, ?_⟩
        rw [HX.out]
        exact ⟨rfl, HK6.out⟩
    · rw [decide_eq_false (fun e => hnt e.symm)] at hqe
      have HX := Lib.hid (HRX.out.symm.trans (endX_other HX0.out hnt))
      have hf := fun W => fail_any (.pointer (some ⟨rb, 0, none⟩)) 143 (at_ : Int) W
      clear hnt
      go_quiet (fail)
      have hM4 := HM3.out.on (bdN0 (Below.refl _ _) nq)
      have hT4 := HT3.out.on (bdN0 (Below.refl _ _) nq)
      clear c3 t1 t4 ct
      generalize W3.drewN nq = W4 at *
      have t4 : W4.cell? ⟨w.heap.size, 4, none⟩ = some (.int .i64 (at_ : Int)) := hT4.cell 4
      have HK4 := Lib.hid (HH.out.keep hM4)
      clear hM4 hT4
      go_wp2_with fail
      refine (hf _).mono ?_
      rintro e w' ⟨rfl, rfl⟩
      go_wp2_with fail
      refine ⟨rfl, ?_⟩
      rw [HX.out]
      exact ⟨rfl, HK4.out⟩
end Go.Proofs.YtnmpbphnfiiafaaGreatDoor
