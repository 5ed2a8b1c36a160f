/-
  The reader of files: the begin of an element, whole.
  The reader of files: the end of an element.
  The reader of files: the text ahead of a tag is told.
  The reader of files: what the open elements hold.
-/
import Derived.Test.YtdipbfchlopeaaaGreatDoorXnF
namespace Go.Proofs.YtdipbfchlopeaaaGreatDoor
section
open Go.RowKit Go.PlainAid

section
variable {lo rb : Nat} {s : ByteArray} {at_ : Nat} {ov pv bp tv : Value} {fr : Int} {out : List Tk} {pile : List ByteArray} {text : List UInt8} {w0 : World} {nm : ByteArray} {R : Xr (Bool × List At2)}
theorem bg_pass2 (rest : Code) (hrest : findLabel bgCode 0 = some rest) (a : Act) (w : World) (hR : RdS lo rb s at_ ov pv bp tv fr out pile text w0) (hz : s.size ≤ 4000000000) (hG : ∀ W, KeepX lo rb w0 W → Gx W) (hol : out.length ≤ 10000000) (hpl : pile.length ≤ 64)
    (hJ : BJ rb s at_ #[.string s, .int .i64 (at_ : Int), ov, pv, bp, tv, .int .i64 fr] w0 nm R a w) : rest.wp Tryz.prog (Exit.jump 0 (fun a' w' => BJ rb s at_ #[.string s, .int .i64 (at_ : Int), ov, pv, bp, tv, .int .i64 fr] w0 nm R a' w' ∧ BM rb s a' w' < BM rb s a w)
      (bodyPost Tryz.prog Tryz.f46 (fun e w' => BegEnd lo rb s at_ bp tv fr out pile text w0 (begR nm R) e w'))) a w := by
  obtain ⟨c, hc, h⟩ := bg_pass
  obtain rfl : rest = .seq .skip c := Option.some.inj (hrest.symm.trans hc)
  refine wp_seq (wp_skip ?_)
  exact h _ a w hR (KeepX.refl _ _ _) hz hG hol hpl hJ (fun a2 w2 h1 h2 => ⟨h1, h2⟩)
theorem bg_fall (c : Code) (hrest : findLabel bgCode 0 = some (.seq .skip c)) (a : Act) (w : World) (hR : RdS lo rb s at_ ov pv bp tv fr out pile text w0) (hz : s.size ≤ 4000000000) (hG : ∀ W, KeepX lo rb w0 W → Gx W) (hol : out.length ≤ 10000000) (hpl : pile.length ≤ 64)
    (hJ : BJ rb s at_ #[.string s, .int .i64 (at_ : Int), ov, pv, bp, tv, .int .i64 fr] w0 nm R a w) : c.wp Tryz.prog (Exit.jump 0 (BJ rb s at_ #[.string s, .int .i64 (at_ : Int), ov, pv, bp, tv, .int .i64 fr] w0 nm R)
      (bodyPost Tryz.prog Tryz.f46 (fun e w' => BegEnd lo rb s at_ bp tv fr out pile text w0 (begR nm R) e w'))) a w := by
  obtain ⟨c', hc, h⟩ := bg_pass
  obtain rfl : c = c' := by have := Option.some.inj (hrest.symm.trans hc); injection this
  exact h _ a w hR (KeepX.refl _ _ _) hz hG hol hpl hJ (fun a2 w2 h1 _ => h1)
theorem begX_bad {n a : Nat} {ee : Int} (h : nameX s (at_ + 1) = .bad ee a) : begX s at_ n = .bad ee a := by unfold begX; rw [h]
theorem begX_full {n q : Nat} (h : nameX s (at_ + 1) = .ok q nm) (hn : n = 64) : begX s at_ n = .bad 3 at_ := by unfold begX; rw [h]; simp only; rw [if_pos hn]
theorem begX_go {n q : Nat} (h : nameX s (at_ + 1) = .ok q nm) (hn : n ≠ 64) : begX s at_ n = begR nm (begF s (s.size + 1 - q) q []) := by
  unfold begX begR
  rw [h]
  simp only
  rw [if_neg hn]
  cases begF s (s.size + 1 - q) q [] <;> rfl
end
set_option maxRecDepth 100000 in
set_option maxHeartbeats 8000000 in
theorem begin_any {lo rb : Nat} {s : ByteArray} {at_ : Nat} {ov pv bp tv : Value} {fr : Int} {out : List Tk} {pile : List ByteArray} {text : List UInt8} {w : World} (h : RdS lo rb s at_ ov pv bp tv fr out pile text w) (ha : at_ < s.size) (hz : s.size ≤ 4000000000) (hG : ∀ W, KeepX lo rb w W → Gx W) (hol : out.length ≤ 10000000) (hpl : pile.length ≤ 64) :
    Calls Tryz.prog 46 #[.pointer (some ⟨rb, 0, none⟩)] w fun en w' => BegEnd lo rb s at_ bp tv fr out pile text w (begX s at_ pile.length) en w' := by
  have c1 := h.rdr.cell1
  have hlt := h.blk.lt'
  have f1 : IntKind.i64.wrap ((at_ : Int) + 1) = ((at_ + 1 : Nat) : Int) := by rw [IntWalk.i64_in _ (by omega)]; omega
  have hne : w.heap.size ≠ rb := by omega
  have hne' : rb ≠ w.heap.size := by omega
  have hsz : (w.setCell ⟨rb, 1, none⟩ (.int .i64 ((at_ + 1 : Nat) : Int))).heap.size = w.heap.size := by simp [World.setCell]
  have hM1 := ((h.rdr.moved (Below.refl _ _)).set (at_ + 1)).on ((Below.refl _ _).alloc (Nat.le_refl _) (.cells #[.int .i64 1, .string ⟨#[]⟩, .slice none 0 0, .string ⟨#[]⟩, .int .i64 (at_ : Int)] 27))
  have hT1 := Blk.new' (w.setCell ⟨rb, 1, none⟩ (.int .i64 ((at_ + 1 : Nat) : Int))) #[.int .i64 1, .string ⟨#[]⟩, .slice none 0 0, .string ⟨#[]⟩, .int .i64 (at_ : Int)] 27 w.heap.size hsz.symm
  have d0 := h.blk.free 1
  have hnm := rdName_any hM1.1 ha (by omega)
  have hlo := h.bld.lo
  obtain ⟨n, hn⟩ : ∃ n, pile.length = n := ⟨_, rfl⟩
  obtain ⟨pa, pn, pc, hpv⟩ := h.pile.form'
  have hpn : pn = n := by
    obtain ⟨_, _, e⟩ := h.pile.form
    rw [hpv] at e
    injection e with _ e _
    omega
  subst hpv hpn
  rw [hn]
  have HH := Lib.hid h; have HG := Lib.hid hG; have HM1 := Lib.hid hM1; have HT1 := Lib.hid hT1; have HLO := Lib.hid hlo; have HN := Lib.hid hn
  clear h hG hM1 hT1 hsz hlo hn
  cases hx : nameX s (at_ + 1) with
  | bad ee aa =>
    rw [begX_bad hx]
    go_enter Tryz.func46, Tryz.ntmps46
    refine wp_scope_jumps 0 (fun _ _ => False) (fun _ _ => 0) rfl ?_ (fun _ _ h => h.elim)
    go_wp2_with fail
    refine hnm.mono ?_
    intro e w2 hE
    unfold StepEnd at hE
    rw [hx] at hE
    obtain ⟨rfl, hK⟩ := hE
    go_wp2_with fail
    simp only [Exit.jump]
    exact ⟨rfl, rfl, (HM1.out.2.trans (hK.mono HM1.out.2.size)).mono HLO.out⟩
  | ok q nm =>
    have key : ∀ w2, Moved rb s (#[.string s, .int .i64 (at_ : Int), ov, .slice pa pn pc, bp, tv, .int .i64 fr].setIfInBounds 1 (.int .i64 ((at_ + 1 : Nat) : Int))) ((w.setCell ⟨rb, 1, none⟩ (.int .i64 ((at_ + 1 : Nat) : Int))).alloc (.cells #[.int .i64 1, .string ⟨#[]⟩, .slice none 0 0, .string ⟨#[]⟩, .int .i64 (at_ : Int)] 27)) q w2 →
        Blk w2 w.heap.size #[.int .i64 1, .string ⟨#[]⟩, .slice none 0 0, .string ⟨#[]⟩, .int .i64 (at_ : Int)] ∧ Moved rb s #[.string s, .int .i64 (at_ : Int), ov, .slice pa pn pc, bp, tv, .int .i64 fr] w q w2 := fun w2 hM => by
      refine ⟨?_, HM1.out.trans hM⟩
      obtain ⟨t, ht⟩ := HT1.out
      exact ⟨t, (hM.2.block _ (lt_some ht) hne).trans ht⟩
    obtain ⟨hq1, hq2⟩ := nameX_in hx ha
    by_cases h64 : pn = 64
    · rw [begX_full hx h64]
      have hI : ((pn : Int) == 64) = true := by simp; omega
      have hf := fun W => fail_any (.pointer (some ⟨rb, 0, none⟩)) 3 (at_ : Int) W
      go_enter Tryz.func46, Tryz.ntmps46
      refine wp_scope_jumps 0 (fun _ _ => False) (fun _ _ => 0) rfl ?_ (fun _ _ h => h.elim)
      go_wp2_with fail
      refine hnm.mono ?_
      intro e w2 hE
      unfold StepEnd at hE
      rw [hx] at hE
      obtain ⟨rfl, hM⟩ := hE
      obtain ⟨hT2, hM2⟩ := key w2 hM
      have t1 : w2.cell? ⟨w.heap.size, 1, none⟩ = some (.string ⟨#[]⟩) := hT2.cell 1
      have t4 : w2.cell? ⟨w.heap.size, 4, none⟩ = some (.int .i64 (at_ : Int)) := hT2.cell 4
      have t0 := hT2.free 1
      have c3 : w2.cell? ⟨rb, 3, none⟩ = some (.slice pa pn pc) := hM2.1.blk.cell 3
      have hM3 := HH.out.keep hM2
      have HM3 := Lib.hid hM3
      clear hM hM2 hT2 key hM3 hnm d0 c1 f1
      go_wp2_with fail
      refine (hf _).mono ?_
      rintro e w' ⟨rfl, rfl⟩
      go_wp2_with fail
      simp only [Exit.jump]
      exact ⟨rfl, rfl, HM3.out.trans ⟨rfl, rfl, rfl, by simp [World.setCell], fun g hg _ => Below.heap_setCell _ _ _ _ (by have := HLO.out; simp; omega)⟩⟩
    · rw [begX_go hx h64]
      have hI : ((pn : Int) == 64) = false := by simp; omega
      have hI2 : ¬ (pn : Int) = 64 := by omega
      go_enter Tryz.func46, Tryz.ntmps46
      refine wp_scope_jumps 0 (BJ rb s at_ #[.string s, .int .i64 (at_ : Int), ov, .slice pa pn pc, bp, tv, .int .i64 fr] w nm (begF s (s.size + 1 - q) q [])) (BM rb s) rfl ?_ ?_
      rotate_left
      · intro a' w' hJ
        exact bg_pass2 _ rfl a' w' HH.out hz HG.out hol (by rw [HN.out]; rw [HN.out] at hpl; exact hpl) hJ
      go_wp2_with fail
      refine hnm.mono ?_
      intro e w2 hE
      unfold StepEnd at hE
      rw [hx] at hE
      obtain ⟨rfl, hM⟩ := hE
      obtain ⟨hT2, hM2⟩ := key w2 hM
      have t1 : w2.cell? ⟨w.heap.size, 1, none⟩ = some (.string ⟨#[]⟩) := hT2.cell 1
      have t0 := hT2.free 1
      have c3 : w2.cell? ⟨rb, 3, none⟩ = some (.slice pa pn pc) := hM2.1.blk.cell 3
      have HM2 := Lib.hid hM2; have HT2 := Lib.hid hT2
      clear hM hM2 hT2 key hnm d0 c1 f1
      go_wp2_with fail
      refine wp_label ?_
      rename_i K1 hK1
      refine hK1 _ _ (bg_fall _ rfl _ _ HH.out hz HG.out hol (by rw [HN.out]; rw [HN.out] at hpl; exact hpl) ?_)
      have hM5 : Moved rb s #[.string s, .int .i64 (at_ : Int), ov, .slice pa pn pc, bp, tv, .int .i64 fr] w q (w2.setCell ⟨w.heap.size, 1, none⟩ (.string nm)) := by
        have h4 := HM2.out
        have hrb5 : (w2.setCell ⟨w.heap.size, 1, none⟩ (.string nm)).heap[rb]? = w2.heap[rb]? := Below.heap_setCell _ _ _ _ hne'
        exact ⟨⟨hrb5.trans h4.1.blk, h4.1.c0, h4.1.c1⟩, h4.2.trans ⟨rfl, rfl, rfl, by simp [World.setCell], fun g hg _ => Below.heap_setCell _ _ _ _ (by simp; omega)⟩⟩
      exact ⟨q, [], none, 0, 0, s.size + 1 - q, rfl, rfl, rfl, rfl, hM5, HT2.out.set 1 _, GRow.nil _ _ _, hq2, by omega, by simp, by have := HT2.out.lt; simpa [World.setCell] using this, rfl⟩
end

section
open Go.RowKit Go.PlainAid

/-- What end comes to. -/
def EndEnd (lo rb : Nat) (s : ByteArray) (at_ : Nat) (bp tv : Value) (fr : Int) (out : List Tk) (pile : List ByteArray) (text : List UInt8) (w : World) (x : Xr ByteArray) (en : Ending) (w' : World) : Prop :=
  match x with
  | .bad e a => en = Died e a ∧ KeepX lo rb w w'
  | .ok q nm => en = .returned (.tuple #[]) ∧ KeepX lo rb w w' ∧ ∃ ov pv, RdS lo rb s q ov pv bp tv fr (out ++ [⟨2, nm, [], ⟨#[]⟩, at_⟩]) pile.dropLast text w'
theorem endX_bad {s : ByteArray} {p a : Nat} {top : ByteArray} {e : Int} (h : nameX s (p + 2) = .bad e a) : endX s p top = .bad e a := by unfold endX; rw [h]
theorem endX_other {s : ByteArray} {p q : Nat} {top nm : ByteArray} (h : nameX s (p + 2) = .ok q nm) (hn : ¬ nm = top) : endX s p top = .bad 143 p := by unfold endX; rw [h]; simp only; rw [if_neg hn]
theorem endX_go {s : ByteArray} {p q k : Nat} {top nm : ByteArray} (h : nameX s (p + 2) = .ok q nm) (hn : nm = top) (hk : blk s q = k) : endX s p top = if bt s k = 62 then .ok (k + 1) nm else .bad 140 k := by subst hk; unfold endX; rw [h]; simp only; rw [if_pos hn]

set_option maxRecDepth 100000 in
set_option maxHeartbeats 8000000 in
theorem end_any {lo rb : Nat} {s : ByteArray} {at_ : Nat} {ov pv bp tv : Value} {fr : Int} {out : List Tk} {pile : List ByteArray} {text : List UInt8} {w : World} (h : RdS lo rb s at_ ov pv bp tv fr out pile text w) (ha : at_ + 2 ≤ s.size) (hz : s.size ≤ 4000000000) (hol : out.length ≤ 10000000) (hpl : pile.length ≤ 64) (hp0 : pile ≠ []) :
    Calls Tryz.prog 73 #[.pointer (some ⟨rb, 0, none⟩)] w fun en w' => EndEnd lo rb s at_ bp tv fr out pile text w (endX s at_ (pile.getLastD ⟨#[]⟩)) en w' := by
  obtain ⟨p, top, rfl⟩ : ∃ p x, pile = p ++ [x] := ⟨pile.dropLast, pile.getLast hp0, (List.dropLast_concat_getLast _).symm⟩
  have hgl : (p ++ [top]).getLastD ⟨#[]⟩ = top := by simp
  rw [hgl]
  obtain ⟨m, hm⟩ : ∃ m, p.length = m := ⟨_, rfl⟩
  have hpr := h.pile.read
  rcases hpr with ⟨e, _⟩ | ⟨pg, pc, hpv, hpg1, hpg2, hcap, hmax, hcell⟩
  · simp at e
  have hct := hcell m (by simp; omega) 0 (by decide)
  have hget : (p ++ [top])[m]'(by simp; omega) = top := by subst hm; simp
  rw [hget, show m * StrE.sz + 0 = m by simp [StrE]] at hct
  change w.cell? ⟨pg, m, none⟩ = some (.string top) at hct
  rw [List.length_append, List.length_singleton, hm] at hpv hcap
  subst hpv
  have c1 := h.rdr.cell1
  have hlt := h.blk.lt'
  have f1 : IntKind.i64.wrap ((at_ : Int) + 2) = ((at_ + 2 : Nat) : Int) := by rw [IntWalk.i64_in _ (by omega)]; omega
  have hne : w.heap.size ≠ rb := by omega
  have hne' : rb ≠ w.heap.size := by omega
  have hsz : (w.setCell ⟨rb, 1, none⟩ (.int .i64 ((at_ + 2 : Nat) : Int))).heap.size = w.heap.size := by simp [World.setCell]
  have hM1 := ((h.rdr.moved (Below.refl _ _)).set (at_ + 2)).on ((Below.refl _ _).alloc (Nat.le_refl _) (.cells #[.int .i64 2, .string ⟨#[]⟩, .slice none 0 0, .string ⟨#[]⟩, .int .i64 (at_ : Int)] 27))
  have hT1 := Blk.new' (w.setCell ⟨rb, 1, none⟩ (.int .i64 ((at_ + 2 : Nat) : Int))) #[.int .i64 2, .string ⟨#[]⟩, .slice none 0 0, .string ⟨#[]⟩, .int .i64 (at_ : Int)] 27 w.heap.size hsz.symm
  have d0 := h.blk.free 1
  have hnm := rdName_any hM1.1 ha (by omega)
  have hlo := h.bld.lo
  have hrbl := h.rb
  have hml : m ≤ 100 := by rw [List.length_append, List.length_singleton, hm] at hpl; omega
  have HH := Lib.hid h; have HM1 := Lib.hid hM1; have HT1 := Lib.hid hT1; have HLO := Lib.hid hlo; have HM := Lib.hid hm; have HCT := Lib.hid hct; have HPG := Lib.hid (And.intro hpg1 hpg2); have HRBL := Lib.hid hrbl; have HNE := Lib.hid hne
  clear h hM1 hT1 hsz hlo hm hct hcell hpg1 hpg2 hp0 hget hgl hrbl
  obtain ⟨R, hRX⟩ : ∃ R, endX s at_ top = R := ⟨_, rfl⟩
  rw [hRX]
  have HRX := Lib.hid hRX
  clear hRX
  cases hx : nameX s (at_ + 2) with
  | bad ee aa =>
    have HX := Lib.hid (HRX.out.symm.trans (endX_bad hx))
    go_enter Tryz.func73, Tryz.ntmps73
    go_wp2_with fail
    refine hnm.mono ?_
    intro e w2 hE
    unfold StepEnd at hE
    rw [hx] at hE
    obtain ⟨rfl, hK⟩ := hE
    go_wp2_with fail
    refine ⟨rfl, ?_⟩
    rw [HX.out]
    exact ⟨rfl, (HM1.out.2.trans (hK.mono HM1.out.2.size)).mono HLO.out⟩
  | ok q nm =>
    obtain ⟨hq1, hq2⟩ := nameX_in hx ha
    have HX0 := Lib.hid hx
    go_enter Tryz.func73, Tryz.ntmps73
    go_wp2_with fail
    refine hnm.mono ?_
    intro e w2 hE
    unfold StepEnd at hE
    rw [hx] at hE
    obtain ⟨rfl, hM⟩ := hE
    have hM2 := HM1.out.trans hM
    have hT2 : Blk w2 w.heap.size #[.int .i64 2, .string ⟨#[]⟩, .slice none 0 0, .string ⟨#[]⟩, .int .i64 (at_ : Int)] := by
      obtain ⟨t, ht⟩ := HT1.out
      exact ⟨t, (hM.2.block _ (lt_some ht) hne).trans ht⟩
    have t1 : w2.cell? ⟨w.heap.size, 1, none⟩ = some (.string ⟨#[]⟩) := hT2.cell 1
    have t0 := hT2.free 1
    have c3 : w2.cell? ⟨rb, 3, none⟩ = some (.slice (some ⟨pg, 0, none⟩) (m + 1) pc) := hM2.1.blk.cell 3
    have f2 : IntKind.i64.wrap ((m : Int) + 1 - 1) = (m : Int) := by rw [IntWalk.i64_in _ (by omega)]; omega
    have f3 : IntKind.i64.wrap (m : Int) = (m : Int) := IntWalk.i64_in _ (by omega)
    have hm0 : (0 : Int) ≤ m := by omega
    have hm1 : (m : Int) < (m : Int) + 1 := by omega
    clear hM hnm d0 c1 f1
    go_upto_region 4 with fail
    have hrb5 : (w2.setCell ⟨w.heap.size, 1, none⟩ (.string nm)).heap[rb]? = w2.heap[rb]? := Below.heap_setCell _ _ _ _ hne'
    have hM3 : Moved rb s #[.string s, .int .i64 (at_ : Int), ov, .slice (some ⟨pg, 0, none⟩) (m + 1) pc, bp, tv, .int .i64 fr] w q (w2.setCell ⟨w.heap.size, 1, none⟩ (.string nm)) :=
      ⟨⟨hrb5.trans hM2.1.blk, hM2.1.c0, hM2.1.c1⟩, hM2.2.trans ⟨rfl, rfl, rfl, by simp [World.setCell], fun g hg _ => Below.heap_setCell _ _ _ _ (by simp; omega)⟩⟩
    have hT3 : Blk (w2.setCell ⟨w.heap.size, 1, none⟩ (.string nm)) w.heap.size #[Value.int .i64 2, Value.string nm, Value.slice none 0 0, Value.string ⟨#[]⟩, Value.int .i64 (at_ : Int)] := hT2.set 1 _
    clear hrb5 hM2 hT2 t1 t0 c3
    generalize w2.setCell ⟨w.heap.size, 1, none⟩ (.string nm) = W3 at *
    have c3 : W3.cell? ⟨rb, 3, none⟩ = some (.slice (some ⟨pg, 0, none⟩) (m + 1) pc) := hM3.1.blk.cell 3
    have t1 : W3.cell? ⟨w.heap.size, 1, none⟩ = some (.string nm) := hT3.cell 1
    have t4 : W3.cell? ⟨w.heap.size, 4, none⟩ = some (.int .i64 (at_ : Int)) := hT3.cell 4
    have ct : W3.cell? ⟨pg, m, none⟩ = some (.string top) := (World.cell?_of_block (hM3.2.block pg HPG.out.2 (by have := HPG.out.1; have := HRBL.out; omega))).trans HCT.out
    have hqe := bytes_eqb top nm
    have HM3 := Lib.hid hM3; have HT3 := Lib.hid hT3
    clear hM3 hT3
    by_cases hnt : nm = top
    · obtain ⟨k, hk⟩ : ∃ k, blk s q = k := ⟨_, rfl⟩
      have hks := blk_le s q hq2
      have hkq := blk_ge s q
      rw [hk] at hks hkq
      rw [decide_eq_true hnt.symm] at hqe
      have hx := HRX.out.symm.trans (endX_go HX0.out hnt hk)
      have HXK := Lib.hid hx
      have hbk : ∀ W, Moved rb s #[.string s, .int .i64 (at_ : Int), ov, .slice (some ⟨pg, 0, none⟩) (m + 1) pc, bp, tv, .int .i64 fr] w q W → Calls Tryz.prog 68 #[.pointer (some ⟨rb, 0, none⟩)] W fun en w' => (∃ b, en = .returned (.bool b)) ∧ Moved rb s #[.string s, .int .i64 (at_ : Int), ov, .slice (some ⟨pg, 0, none⟩) (m + 1) pc, bp, tv, .int .i64 fr] w k w' ∧ (Blk W w.heap.size #[Value.int .i64 2, Value.string nm, Value.slice none 0 0, Value.string ⟨#[]⟩, Value.int .i64 (at_ : Int)] → Blk w' w.heap.size #[Value.int .i64 2, Value.string nm, Value.slice none 0 0, Value.string ⟨#[]⟩, Value.int .i64 (at_ : Int)]) := fun W hM => by
        have h1 := blanks_any hM.1 hq2 (by omega)
        rw [hk] at h1
        refine h1.mono fun e w' ⟨he, hM'⟩ => ⟨⟨_, he⟩, hM.trans hM', fun ⟨t, ht⟩ => ⟨t, (hM'.2.block _ (lt_some ht) HNE.out).trans ht⟩⟩
      have HBK := Lib.hid hbk
      clear hx hk hbk hnt
      go_quiet (fail)
      have hM4 := HM3.out.on (bdN0 (Below.refl _ _) nq)
      have hT4 := HT3.out.on (bdN0 (Below.refl _ _) nq)
      clear c3 t1 t4 ct
      generalize W3.drewN nq = W4 at *
      have hb4 := HBK.out _ hM4
      have HT4 := Lib.hid hT4
      clear hM4 hT4
      go_wp2_with fail
      refine hb4.mono ?_
      rintro e w5 ⟨⟨b, rfl⟩, hM5, hT5⟩
      have hT5 := hT5 HT4.out
      have hnx := next_any hM5.1 hks
      have HM5 := Lib.hid hM5; have HT5 := Lib.hid hT5
      clear hM5 hT5 hb4
      by_cases h62 : bt s k = 62
      · have HX := Lib.hid (HXK.out.trans (if_pos h62))
        rw [h62] at hnx
        have hks2 : k < s.size := by
          by_cases hp : k < s.size
          · exact hp
          · rw [bt_end s (by omega)] at h62; omega
        have hwy := fun W => want_yes (.pointer (some ⟨rb, 0, none⟩)) W
        clear h62
        go_wp2_with fail
        refine hnx.mono ?_
        rintro e w6 ⟨rfl, hB6⟩
        have hM6 := HM5.out.on hB6
        have hT6 := HT5.out.on hB6
        have d1 := hM6.1.cell1
        have d0 := hM6.1.blk.free 1
        have f1 : IntKind.i64.wrap ((k : Int) + 1) = ((k + 1 : Nat) : Int) := by rw [IntWalk.i64_in _ (by omega)]; omega
        clear hnx
        go_wp2_with fail
        refine (hwy _).mono ?_
        rintro e w' ⟨rfl, rfl⟩
        go_upto_region 9 with fail
        have hM7 : Moved rb s #[.string s, .int .i64 (at_ : Int), ov, .slice (some ⟨pg, 0, none⟩) (m + 1) pc, bp, tv, .int .i64 fr] w (k + 1) (w6.setCell ⟨rb, 1, none⟩ (.int .i64 ((k : Int) + 1))) := hM6.set (k + 1)
        have hT7 : Blk (w6.setCell ⟨rb, 1, none⟩ (.int .i64 ((k : Int) + 1))) w.heap.size #[Value.int .i64 2, Value.string nm, Value.slice none 0 0, Value.string ⟨#[]⟩, Value.int .i64 (at_ : Int)] := hT6.other rb 1 _ HNE.out
        clear hM6 hT6 d0 d1 f1 hB6
        generalize w6.setCell ⟨rb, 1, none⟩ (.int .i64 ((k : Int) + 1)) = W7 at *
        have c3 : W7.cell? ⟨rb, 3, none⟩ = some (.slice (some ⟨pg, 0, none⟩) (m + 1) pc) := hM7.1.blk.cell 3
        have d3 := hM7.1.blk.free 3
        have hcI : (m : Int) ≤ pc := by omega
        go_upto_region 10 with fail
        have hR8 := (HH.out.moved hM7).popped
        have hK8 : KeepX lo rb w (W7.setCell ⟨rb, 3, none⟩ (.slice (some ⟨pg, 0, none⟩) m pc)) := (HH.out.keep hM7).setCell _ _
        have hT8 : Blk (W7.setCell ⟨rb, 3, none⟩ (.slice (some ⟨pg, 0, none⟩) m pc)) w.heap.size #[Value.int .i64 2, Value.string nm, Value.slice none 0 0, Value.string ⟨#[]⟩, Value.int .i64 (at_ : Int)] := hT7.other rb 3 _ HNE.out
        generalize W7.setCell ⟨rb, 3, none⟩ (.slice (some ⟨pg, 0, none⟩) m pc) = W at *
        obtain ⟨ms, hrow0, hms2, hms3⟩ := hR8.out
        have hovl : ∀ g, ov.ownBlock = some g → g < w.heap.size := fun g hg => by
          obtain ⟨_, c, hc⟩ := HH.out.out.own g hg
          exact lt_some hc
        have HOV := Lib.hid hovl
        obtain ⟨oa, on, oc, hov⟩ := hrow0.form'
        subst hov
        have hrlt := hR8.blk.lt'
        have c2 : W.cell? ⟨rb, 2, none⟩ = some (.slice oa on oc) := hR8.blk.cell 2
        have hR8d := hR8.on (Below.refl _ _).drew
        have hT8d := hT8.on (Below.refl _ _).drew
        have hSD : ∀ o, W.drew.cell? ⟨w.heap.size, o, none⟩ = #[Value.int .i64 2, Value.string nm, Value.slice none 0 0, Value.string ⟨#[]⟩, Value.int .i64 (at_ : Int)][o]? := hT8d.cell
        have hSA : ∀ o, (W.drew.alloc (.cells #[.int .i64 2, .string nm, .slice none 0 0, .string ⟨#[]⟩, .int .i64 (at_ : Int)] 27)).cell? ⟨w.heap.size, o, none⟩ = #[Value.int .i64 2, Value.string nm, Value.slice none 0 0, Value.string ⟨#[]⟩, Value.int .i64 (at_ : Int)][o]? := (hT8d.alloc _).cell
        have hrowA : GRow TkE lo (W.drew.alloc (.cells #[.int .i64 2, .string nm, .slice none 0 0, .string ⟨#[]⟩, .int .i64 (at_ : Int)] 27)) (.slice oa on oc) ms := (hrow0.on (Below.refl _ _).drew).on ((Below.refl _ _).alloc (Nat.le_refl _) _)
        have hbase : lo ≤ (W.drew.alloc (.cells #[.int .i64 2, .string nm, .slice none 0 0, .string ⟨#[]⟩, .int .i64 (at_ : Int)] 27)).heap.size := Nat.le_trans hR8d.bld.lo (by simp)
        have hlen : ms.length ≤ 100000000 := by omega
        have hms3d : ∀ j (h : j < ms.length) (h' : j < out.length), TkOk lo W.drew ms[j] out[j] := fun j h h' => (hms3 j h h').later (fun g c _ hc => rfl)
        have htok : ∀ j (h : j < [(⟨2, nm, none, 0, 0, ⟨#[]⟩, at_⟩ : TkM)].length) (h' : j < [(⟨2, nm, [], ⟨#[]⟩, at_⟩ : Tk)].length), TkOk lo W.drew [(⟨2, nm, none, 0, 0, ⟨#[]⟩, at_⟩ : TkM)][j] [(⟨2, nm, [], ⟨#[]⟩, at_⟩ : Tk)][j] := fun j h h' => by
          obtain rfl : j = 0 := by simp at h; omega
          exact ⟨rfl, rfl, rfl, rfl, GRow.nil _ _ _⟩
        have hpk0 : ∀ v' w6, GRow TkE lo w6 v' (ms ++ [(⟨2, nm, none, 0, 0, ⟨#[]⟩, at_⟩ : TkM)]) → (W.drew.alloc (.cells #[.int .i64 2, .string nm, .slice none 0 0, .string ⟨#[]⟩, .int .i64 (at_ : Int)] 27)).grownBy w6 (Value.slice oa on oc).ownBlock → w6.frozen? ⟨rb, 2, none⟩ = false ∧ w6.cell? ⟨rb, 2, none⟩ = some (.slice oa on oc) ∧ (∀ o, w6.cell? ⟨w.heap.size, o, none⟩ = #[Value.int .i64 2, Value.string nm, Value.slice none 0 0, Value.string ⟨#[]⟩, Value.int .i64 (at_ : Int)][o]?) ∧ (∀ o, (w6.setCell ⟨rb, 2, none⟩ v').cell? ⟨w.heap.size, o, none⟩ = #[Value.int .i64 2, Value.string nm, Value.slice none 0 0, Value.string ⟨#[]⟩, Value.int .i64 (at_ : Int)][o]?) ∧
            RdS lo rb s (k + 1) v' (.slice (some ⟨pg, 0, none⟩) m pc) bp tv fr (out ++ [(⟨2, nm, [], ⟨#[]⟩, at_⟩ : Tk)]) (p ++ [top]).dropLast text (w6.setCell ⟨rb, 2, none⟩ v') ∧ KeepX lo rb w (w6.setCell ⟨rb, 2, none⟩ v') := fun v' w6 hr hg => by
          obtain ⟨hk, hRn, hKn⟩ := hR8d.told hms2 hms3d rfl htok hr hg
          have hb6 := (hk rb hR8d.blk.lt' (fun e => by have := (hR8d.out.own rb e).1; have := hR8d.rb; omega)).trans hR8d.blk
          have ht6 : Blk w6 w.heap.size #[Value.int .i64 2, Value.string nm, Value.slice none 0 0, Value.string ⟨#[]⟩, Value.int .i64 (at_ : Int)] := by
            obtain ⟨t, ht⟩ := hT8d
            exact ⟨t, (hk _ (lt_some ht) (fun e => by have := HOV.out _ e; omega)).trans ht⟩
          exact ⟨freeH hb6 2, cellH hb6 2, ht6.cell, (ht6.other rb 2 v' HNE.out).cell, hRn, hK8.trans ((KeepX.of (Below.refl _ _).drew (Nat.le_refl _)).trans hKn)⟩
        have HPK := Lib.hid (show ∀ v' w6, GRow TkE lo w6 v' (ms ++ [(⟨2, nm, none, 0, 0, ⟨#[]⟩, at_⟩ : TkM)]) → (W.drew.alloc (.cells #[.int .i64 2, .string nm, .slice none 0 0, .string ⟨#[]⟩, .int .i64 (at_ : Int)] 27)).grownBy w6 (Value.slice oa on oc).ownBlock → w6.frozen? ⟨rb, 2, none⟩ = false ∧ w6.cell? ⟨rb, 2, none⟩ = some (.slice oa on oc) ∧ (∀ o, w6.cell? ⟨w.heap.size, o, none⟩ = #[Value.int .i64 2, Value.string nm, Value.slice none 0 0, Value.string ⟨#[]⟩, Value.int .i64 (at_ : Int)][o]?) ∧ (∀ o, (w6.setCell ⟨rb, 2, none⟩ v').cell? ⟨w.heap.size, o, none⟩ = #[Value.int .i64 2, Value.string nm, Value.slice none 0 0, Value.string ⟨#[]⟩, Value.int .i64 (at_ : Int)][o]?) from fun v' w6 hr hg => ⟨(hpk0 v' w6 hr hg).1, (hpk0 v' w6 hr hg).2.1, (hpk0 v' w6 hr hg).2.2.1, (hpk0 v' w6 hr hg).2.2.2.1⟩)
        have HR9 := Lib.hid (fun v' w6 hr hg => (hpk0 v' w6 hr hg).2.2.2.2)
        have HSD := Lib.hid hSD; have HSA := Lib.hid hSA; have HROWA := Lib.hid hrowA
        clear hpk0 hR8 hR8d hT8 hT8d hK8 hSD hSA hrowA hms3 hms3d htok hrow0 hms2 hM7 hT7 c3 d3 hovl
        refine wp_region_held_drew (S := fun w' => ∀ o, w'.cell? ⟨w.heap.size, o, none⟩ = #[Value.int .i64 2, Value.string nm, Value.slice none 0 0, Value.string ⟨#[]⟩, Value.int .i64 (at_ : Int)][o]?) (by kernel_rfl) (HSD.out) (fun hHeld => ?_)
        refine wpAnyH_take (i := 0) (v := ?_) rfl (by kernel_rfl) (by kernel_rfl) (by kernel_rfl) (fun _ _ _ h => h) (Or.inl ⟨by rfl, ?_⟩) hHeld ?_
        rotate_left
        · intro w hSw; (try dsimp only at hSw); first | (go_simp; done) | (go_simp; with_reducible rfl)
        try simp only [Act.put, List.setIfInBounds_toArray, List.set_cons_zero, List.set_cons_succ, List.getElem_toArray, List.getElem_cons_zero]
        refine wpAnyH_take (i := 1) (v := ?_) rfl (by kernel_rfl) (by kernel_rfl) (by kernel_rfl) (fun _ _ _ h => h) (Or.inl ⟨by rfl, ?_⟩) hHeld ?_
        rotate_left
        · intro w hSw; (try dsimp only at hSw); first | (go_simp; done) | (go_simp; with_reducible rfl)
        try simp only [Act.put, List.setIfInBounds_toArray, List.set_cons_zero, List.set_cons_succ, List.getElem_toArray, List.getElem_cons_zero, List.getElem_cons_succ]
        refine wpAnyH_take (i := 2) (v := ?_) rfl (by kernel_rfl) (by kernel_rfl) (by kernel_rfl) (fun _ _ _ h => h) (Or.inl ⟨by rfl, ?_⟩) hHeld ?_
        rotate_left
        · intro w hSw; (try dsimp only at hSw); first | (go_simp; done) | (go_simp; with_reducible rfl)
        try simp only [Act.put, List.setIfInBounds_toArray, List.set_cons_zero, List.set_cons_succ, List.getElem_toArray, List.getElem_cons_zero, List.getElem_cons_succ]
        refine wpAnyH_take (i := 3) (v := ?_) rfl (by kernel_rfl) (by kernel_rfl) (by kernel_rfl) (fun _ _ _ h => h) (Or.inl ⟨by rfl, ?_⟩) hHeld ?_
        rotate_left
        · intro w hSw; (try dsimp only at hSw); first | (go_simp; done) | (go_simp; with_reducible rfl)
        try simp only [Act.put, List.setIfInBounds_toArray, List.set_cons_zero, List.set_cons_succ, List.getElem_toArray, List.getElem_cons_zero, List.getElem_cons_succ]
        refine wpAnyH_take (i := 5) (v := ?_) rfl (by kernel_rfl) (by kernel_rfl) (by kernel_rfl) (fun _ _ _ h => h) (Or.inl ⟨by rfl, ?_⟩) hHeld ?_
        rotate_left
        · intro w hSw; (try dsimp only at hSw); first | (go_simp; done) | (go_simp; with_reducible rfl)
        try simp only [Act.put, List.setIfInBounds_toArray, List.set_cons_zero, List.set_cons_succ, List.getElem_toArray, List.getElem_cons_zero, List.getElem_cons_succ]
        refine wpAnyH_ready (rs := [4, 6]) (by kernel_rfl) (by simp) ?_
        refine AllReadyH.cons rfl (fun K hK => ?_) ?_
        go_simp
        refine hK.out _ _ (HSD.out) (fun hHeld => ?_)
        clear hK K
        refine wpAnyH_ready (rs := [6]) (by kernel_rfl) (by simp) ?_
        refine AllReadyH.cons rfl (fun K hK => ?_) AllReadyH.nil
        go_simp
        refine hK.out _ _ (HSA.out) (fun hHeld => ?_)
        clear hK K
        refine wpAnyH_ready (rs := [7]) (by kernel_rfl) (by simp) ?_
        refine AllReadyH.cons rfl (fun K hK => ?_) AllReadyH.nil
        (refine step_snoc_g TkE (x := ⟨2, nm, none, 0, 0, ⟨#[]⟩, at_⟩) rfl _ _ rfl lo (.slice oa on oc) ms rfl HROWA.out 1 _ rfl (Blk.new _ _ _) hlen hbase ?_; intro v' w6 hrow6 hg6; obtain ⟨a', n', c', rfl⟩ := hrow6.form'; obtain ⟨f6, c6, hS6, hS6'⟩ := HPK.out _ _ hrow6 hg6)
        refine hK.out _ _ (hS6) (fun hHeld => ?_)
        clear hK K
        refine wpAnyH_take (i := 8) (v := ?_) rfl (by kernel_rfl) (by kernel_rfl) (by kernel_rfl) (fun _ _ _ h => h) (Or.inl ⟨by rfl, ?_⟩) hHeld ?_
        rotate_left
        · intro w hSw; (try dsimp only at hSw); first | (go_simp; done) | (go_simp; with_reducible rfl)
        try simp only [Act.put, List.setIfInBounds_toArray, List.set_cons_zero, List.set_cons_succ, List.getElem_toArray, List.getElem_cons_zero, List.getElem_cons_succ]
        refine wpAnyH_take (i := 9) (v := ?_) rfl (by kernel_rfl) (by kernel_rfl) (by kernel_rfl) (fun _ _ _ h => h) (Or.inl ⟨by rfl, ?_⟩) hHeld ?_
        rotate_left
        · intro w hSw; (try dsimp only at hSw); first | (go_simp; done) | (go_simp; with_reducible rfl)
        try simp only [Act.put, List.setIfInBounds_toArray, List.set_cons_zero, List.set_cons_succ, List.getElem_toArray, List.getElem_cons_zero, List.getElem_cons_succ]
        refine wpAnyH_ready (rs := [10]) (by kernel_rfl) (by simp) ?_
        refine AllReadyH.cons rfl (fun K hK => ?_) AllReadyH.nil
        go_simp
        refine hK.out _ _ (hS6') (fun hHeld => ?_)
        clear hK K
        refine wpAnyH_done (by kernel_rfl) ?_ _
        go_wp2_with fail
        have hE := HR9.out _ _ hrow6 hg6
        go_end0
        rw [HX.out]
        exact ⟨rfl, hE.2, _, _, hE.1⟩
        refine AllReadyH.cons rfl (fun K hK => ?_) ?_
        go_simp
        refine hK.out _ _ (HSA.out) (fun hHeld => ?_)
        clear hK K
        refine wpAnyH_ready (rs := [4]) (by kernel_rfl) (by simp) ?_
        refine AllReadyH.cons rfl (fun K hK => ?_) AllReadyH.nil
        go_simp
        refine hK.out _ _ (HSA.out) (fun hHeld => ?_)
        clear hK K
        refine wpAnyH_ready (rs := [7]) (by kernel_rfl) (by simp) ?_
        refine AllReadyH.cons rfl (fun K hK => ?_) AllReadyH.nil
        (refine step_snoc_g TkE (x := ⟨2, nm, none, 0, 0, ⟨#[]⟩, at_⟩) rfl _ _ rfl lo (.slice oa on oc) ms rfl HROWA.out 1 _ rfl (Blk.new _ _ _) hlen hbase ?_; intro v' w6 hrow6 hg6; obtain ⟨a', n', c', rfl⟩ := hrow6.form'; obtain ⟨f6, c6, hS6, hS6'⟩ := HPK.out _ _ hrow6 hg6)
        refine hK.out _ _ (hS6) (fun hHeld => ?_)
        clear hK K
        refine wpAnyH_take (i := 8) (v := ?_) rfl (by kernel_rfl) (by kernel_rfl) (by kernel_rfl) (fun _ _ _ h => h) (Or.inl ⟨by rfl, ?_⟩) hHeld ?_
        rotate_left
        · intro w hSw; (try dsimp only at hSw); first | (go_simp; done) | (go_simp; with_reducible rfl)
        try simp only [Act.put, List.setIfInBounds_toArray, List.set_cons_zero, List.set_cons_succ, List.getElem_toArray, List.getElem_cons_zero, List.getElem_cons_succ]
        refine wpAnyH_take (i := 9) (v := ?_) rfl (by kernel_rfl) (by kernel_rfl) (by kernel_rfl) (fun _ _ _ h => h) (Or.inl ⟨by rfl, ?_⟩) hHeld ?_
        rotate_left
        · intro w hSw; (try dsimp only at hSw); first | (go_simp; done) | (go_simp; with_reducible rfl)
        try simp only [Act.put, List.setIfInBounds_toArray, List.set_cons_zero, List.set_cons_succ, List.getElem_toArray, List.getElem_cons_zero, List.getElem_cons_succ]
        refine wpAnyH_ready (rs := [10]) (by kernel_rfl) (by simp) ?_
        refine AllReadyH.cons rfl (fun K hK => ?_) AllReadyH.nil
        go_simp
        refine hK.out _ _ (hS6') (fun hHeld => ?_)
        clear hK K
        refine wpAnyH_done (by kernel_rfl) ?_ _
        go_wp2_with fail
        have hE := HR9.out _ _ hrow6 hg6
        go_end0
        rw [HX.out]
        exact ⟨rfl, hE.2, _, _, hE.1⟩
        exact AllReadyH.nil
      · have h62' : (bt s k == 62) = false := by simpa using h62
        have HX := Lib.hid (HXK.out.trans (if_neg h62))
        clear h62
        go_wp2_with fail
        refine hnx.mono ?_
        rintro e w6 ⟨rfl, hB6⟩
        have hM6 := HM5.out.on hB6
        have hwn := want_no hM6.1
        have HK6 := Lib.hid (HH.out.keep hM6)
        clear hM6 hnx hB6
        go_wp2_with fail
        refine hwn.mono ?_
        rintro e w' ⟨rfl, rfl⟩
        go_wp2_with fail
        refine ⟨rfl, ?_⟩
        rw [HX.out]
        exact ⟨rfl, HK6.out⟩
    · rw [decide_eq_false (fun e => hnt e.symm)] at hqe
      have HX := Lib.hid (HRX.out.symm.trans (endX_other HX0.out hnt))
      have hf := fun W => fail_any (.pointer (some ⟨rb, 0, none⟩)) 143 (at_ : Int) W
      clear hnt
      go_quiet (fail)
      have hM4 := HM3.out.on (bdN0 (Below.refl _ _) nq)
      have hT4 := HT3.out.on (bdN0 (Below.refl _ _) nq)
      clear c3 t1 t4 ct
      generalize W3.drewN nq = W4 at *
      have t4 : W4.cell? ⟨w.heap.size, 4, none⟩ = some (.int .i64 (at_ : Int)) := hT4.cell 4
      have HK4 := Lib.hid (HH.out.keep hM4)
      clear hM4 hT4
      go_wp2_with fail
      refine (hf _).mono ?_
      rintro e w' ⟨rfl, rfl⟩
      go_wp2_with fail
      refine ⟨rfl, ?_⟩
      rw [HX.out]
      exact ⟨rfl, HK4.out⟩
end

section
open Go.RowKit Go.PlainAid

def frI : Option Nat → Int
  | none => -1
  | some a => (a : Int)
/-- What tell comes to. -/
def TellEnd (lo rb : Nat) (s : ByteArray) (at_ : Nat) (pv : Value) (pile : List ByteArray) (w : World) (x : Xr (List Tk)) (en : Ending) (w' : World) : Prop :=
  match x with
  | .bad e a => en = Died e a ∧ KeepX lo rb w w'
  | .ok _ out => en = .returned (.tuple #[]) ∧ KeepX lo rb w w' ∧ ∃ ov bp tv, RdS lo rb s at_ ov pv bp tv (-1) out pile [] w'
set_option maxHeartbeats 2000000 in
set_option maxRecDepth 100000 in
theorem bReset_any (b o : Nat) (w : World) (x y : Value) (c0 : w.cell? ⟨b, o, none⟩ = some x) (c1 : w.cell? ⟨b, o + 1, none⟩ = some y) (f0 : w.frozen? ⟨b, o, none⟩ = false) (f1 : w.frozen? ⟨b, o + 1, none⟩ = false) :
    Calls Tryz.prog 99 #[.pointer (some ⟨b, o, none⟩)] w fun e w' => e = .returned (.tuple #[]) ∧ (w.setCell ⟨b, o, none⟩ (.pointer none)).setCell ⟨b, o + 1, none⟩ (.slice none 0 0) = w' := by
  go_enter Tryz.func99, Tryz.ntmps99
  go_wp2_with fail
  go_end0
  exact ⟨rfl, rfl⟩
/-- The reader without its text. -/
structure RdT (lo rb : Nat) (s : ByteArray) (at_ : Nat) (ov pv bp tv : Value) (fr : Int) (out : List Tk) (pile : List ByteArray) (w : World) : Prop where
  blk : BlkR w rb #[.string s, .int .i64 (at_ : Int), ov, pv, bp, tv, .int .i64 fr]
  out : OutAt lo w ov out
  pile : GRow StrE lo w pv pile
  rb : rb < lo
  lo : lo ≤ w.heap.size
section
variable {lo rb : Nat} {s : ByteArray} {at_ : Nat} {ov pv bp tv : Value} {fr : Int} {out : List Tk} {pile : List ByteArray} {text : List UInt8} {w : World}
theorem RdT.ofS (h : RdS lo rb s at_ ov pv bp tv fr out pile text w) {w' : World} (hB : KeepV tv w w') : RdT lo rb s at_ ov pv bp tv fr out pile w' := by
  have hrb := h.rb
  refine ⟨(hB.block rb h.blk.lt' (fun e => by have := (h.bld.own_lt e).1; omega)).trans h.blk, h.out.later (fun g hg => ?_) (fun g c hg hc => hB.block g (lt_some hc) (fun e => ?_)), h.pile.later (fun g hg => hB.block g (h.pile.lt g hg) (fun e => ?_)), hrb, Nat.le_trans h.bld.lo hB.size⟩
  · obtain ⟨_, c, hc⟩ := h.out.own g hg
    exact hB.block g (lt_some hc) (fun e => by
      obtain ⟨c', hc'⟩ := h.bld.kind e
      exact kinds_ne hc hc' (by decide))
  · obtain ⟨c', hc'⟩ := h.bld.kind e
    exact kinds_ne hc hc' (by decide)
  · obtain ⟨c, hc⟩ := h.pile.kind g hg
    obtain ⟨c', hc'⟩ := h.bld.kind e
    exact kinds_ne hc hc' (by decide)
theorem RdT.told (h : RdT lo rb s at_ ov pv bp tv fr out pile w) {ms xs : List TkM} {ts : List Tk} (h2 : ms.length = out.length) (h3 : ∀ j (h : j < ms.length) (h' : j < out.length), TkOk lo w ms[j] out[j]) (h4 : xs.length = ts.length) (h5 : ∀ j (h : j < xs.length) (h' : j < ts.length), TkOk lo w xs[j] ts[j]) {o : Obj} {v' : Value} {w6 : World} (hrow : GRow TkE lo w6 v' (ms ++ xs)) (hg : (w.alloc o).grownBy w6 ov.ownBlock) :
    (∀ k, k < w.heap.size → ov.ownBlock ≠ some k → w6.heap[k]? = w.heap[k]?) ∧ RdT lo rb s at_ v' pv bp tv fr (out ++ ts) pile (w6.setCell ⟨rb, 2, none⟩ v') ∧ KeepX lo rb w (w6.setCell ⟨rb, 2, none⟩ v') := by
  have hrb := h.rb
  have hown := h.out.own
  have hz0 : w.heap.size ≤ (w.alloc o).heap.size := by simp
  have hz : w.heap.size ≤ w6.heap.size := Nat.le_trans hz0 hg.size
  have key : ∀ k, k < w.heap.size → ov.ownBlock ≠ some k → w6.heap[k]? = w.heap[k]? := fun k hk hn =>
    (hg.block k (by simp; omega) (fun e => hn e.symm)).trans (Lib.alloc_old w _ k hk)
  have hne : ov.ownBlock ≠ some rb := fun e => by have := (hown rb e).1; omega
  have hb6 := (key rb h.blk.lt' hne).trans h.blk
  have hset : ∀ k, k ≠ rb → (w6.setCell ⟨rb, 2, none⟩ v').heap[k]? = w6.heap[k]? := fun k hk => Below.heap_setCell _ _ _ _ hk
  have hkey : ∀ k, k < w.heap.size → k ≠ rb → ov.ownBlock ≠ some k → (w6.setCell ⟨rb, 2, none⟩ v').heap[k]? = w.heap[k]? := fun k hk hx hn => (hset k hx).trans (key k hk hn)
  have hzs : (w6.setCell ⟨rb, 2, none⟩ v').heap.size = w6.heap.size := by simp [World.setCell]
  have hat : ∀ g c, lo ≤ g → w.heap[g]? = some (.cells c 40 (0, 0)) → (w6.setCell ⟨rb, 2, none⟩ v').heap[g]? = w.heap[g]? := fun g c hg hc => hkey g (lt_some hc) (by omega) (fun e => by
    obtain ⟨c', hc'⟩ := (hown g e).2
    exact kinds_ne hc hc' (by decide))
  refine ⟨key, ⟨setH hb6 2 v', ⟨ms ++ xs, hrow.set rb 2 _ hrb, by rw [List.length_append, List.length_append, h2, h4], fun j hj hj' => ?_⟩, h.pile.later (fun g hv => hkey g (h.pile.lt g hv) (by have := h.pile.own g hv; omega) (fun e => ?_)), hrb, by rw [hzs]; exact Nat.le_trans h.lo hz⟩, ⟨hg.os, hg.tape, hg.output, by rw [hzs]; exact hz, fun k hk hx => hkey k (Nat.lt_of_lt_of_le hk h.lo) hx (fun e => by have := (hown k e).1; omega)⟩⟩
  · by_cases hlt : j < ms.length
    · rw [List.getElem_append_left hlt, List.getElem_append_left (by omega)]
      exact (h3 j hlt (by omega)).later hat
    · rw [List.getElem_append_right (by omega), List.getElem_append_right (by omega)]
      have e : j - ms.length = j - out.length := by omega
      simp only [e]
      rw [List.length_append] at hj hj'
      exact (h5 (j - out.length) (by omega) (by omega)).later hat
  · obtain ⟨c, hc⟩ := h.pile.kind g hv
    obtain ⟨c', hc'⟩ := (hown g e).2
    exact kinds_ne hc hc' (by decide)
theorem RdT.reset (h : RdT lo rb s at_ ov pv bp tv fr out pile w) : RdS lo rb s at_ ov pv (.pointer none) (.slice none 0 0) fr out pile [] ((w.setCell ⟨rb, 4, none⟩ (.pointer none)).setCell ⟨rb, 5, none⟩ (.slice none 0 0)) := by
  have hrb := h.rb
  have hset : ∀ k, k ≠ rb → ((w.setCell ⟨rb, 4, none⟩ (.pointer none)).setCell ⟨rb, 5, none⟩ (.slice none 0 0)).heap[k]? = w.heap[k]? := fun k hk => (Below.heap_setCell _ _ _ _ hk).trans (Below.heap_setCell _ _ _ _ hk)
  refine ⟨⟨setH (setH h.blk 4 _) 5 _, .inl rfl, rfl, ⟨rfl, .inl ⟨rfl, rfl⟩⟩, by simp [Value.ownBlock], by kernel_rfl, by simpa [World.setCell] using h.lo⟩, h.out.later (fun g hv => hset g (by have := (h.out.own g hv).1; omega)) (fun g c hg hc => hset g (by omega)), h.pile.later (fun g hv => hset g (by have := h.pile.own g hv; omega)), hrb⟩
end
set_option maxRecDepth 100000 in
set_option maxHeartbeats 8000000 in
theorem tell_any {lo rb : Nat} {s : ByteArray} {at_ : Nat} {ov pv bp tv : Value} {from_ : Option Nat} {out : List Tk} {pile : List ByteArray} {text : List UInt8} {w : World} (h : RdS lo rb s at_ ov pv bp tv (frI from_) out pile text w) (hol : out.length ≤ 10000000) (hf0 : from_ = none → text = []) :
    Calls Tryz.prog 72 #[.pointer (some ⟨rb, 0, none⟩)] w fun en w' => TellEnd lo rb s at_ pv pile w (tellX out ⟨text.toArray⟩ from_) en w' := by
  cases from_ with
  | none =>
    obtain rfl := hf0 rfl
    have c6 : w.cell? ⟨rb, 6, none⟩ = some (.int .i64 (-1)) := h.blk.cell 6
    have HH := Lib.hid h
    clear h hf0
    go_enter Tryz.func72, Tryz.ntmps72
    go_wp2_with fail
    first | go_end0 | go_ret | refine bodyPost_ret (results_none rfl _ _ _) rfl ?_
    exact ⟨rfl, KeepX.refl _ _ _, _, _, _, HH.out⟩
  | some a =>
    have c6 : w.cell? ⟨rb, 6, none⟩ = some (.int .i64 (a : Int)) := h.blk.cell 6
    have ha : ¬ (a : Int) < 0 := by omega
    have hLen := bLen h.bld
    have hsz : (⟨text.toArray⟩ : ByteArray).size = text.length := by simp [ByteArray.size]
    obtain ⟨R, hR⟩ : ∃ R, tellX out ⟨text.toArray⟩ (some a) = R := ⟨_, rfl⟩
    rw [hR]
    by_cases h4 : 4096 < text.length
    · have hI : (4096 : Int) < (text.length : Int) := by omega
      have hf := fail_any (.pointer (some ⟨rb, 0, none⟩)) 3 (a : Int) w
      have hx : R = .bad 3 a := by rw [← hR]; unfold tellX; simp only; rw [if_pos (by rw [hsz]; exact h4)]
      have HX := Lib.hid hx
      clear h hx hR h4 hsz
      go_enter Tryz.func72, Tryz.ntmps72
      go_wp2_with fail
      refine hLen.mono ?_
      rintro e w' ⟨rfl, rfl⟩
      go_wp2_with fail
      refine hf.mono ?_
      rintro e w' ⟨rfl, rfl⟩
      go_wp2_with fail
      refine ⟨rfl, ?_⟩
      rw [HX.out]
      exact ⟨rfl, KeepX.refl _ _ _⟩
    · have hI : ¬ (4096 : Int) < (text.length : Int) := by omega
      have hx : R = .ok 0 (out ++ [(⟨3, ⟨#[]⟩, [], ⟨text.toArray⟩, a⟩ : Tk)]) := by rw [← hR]; unfold tellX; simp only; rw [if_neg (by rw [hsz]; exact h4)]
      have HX := Lib.hid hx
      obtain ⟨ms, hrow0, hms2, hms3⟩ := h.out
      obtain ⟨oa, on, oc, hov⟩ := hrow0.form'
      subst hov
      have c2 : w.cell? ⟨rb, 2, none⟩ = some (.slice oa on oc) := h.blk.cell 2
      have hSD : w.drew.cell? ⟨rb, 6, none⟩ = some (Value.int .i64 (a : Int)) := c6
      have hd := h.on (Below.refl _ _).drew
      have hstr := bString hd.bld
      have hlen : ms.length ≤ 100000000 := by omega
      have hps : ∀ w8, KeepV tv w.drew w8 → RdT lo rb s at_ (.slice oa on oc) pv bp tv (a : Int) out pile w8 := fun w8 hK => RdT.ofS hd hK
      have hKd : ∀ w8, KeepV tv w.drew w8 → KeepX lo rb w w8 := fun w8 hK => ⟨hK.os, hK.tape, hK.output, hK.size, fun g hg hx => hK.block g (Nat.lt_of_lt_of_le hg h.bld.lo) (fun e => by have := (h.bld.own_lt e).1; omega)⟩
      have hm8 : ∀ w8, KeepV tv w.drew w8 → GRow TkE lo w8 (.slice oa on oc) ms ∧ (∀ j (h : j < ms.length) (h' : j < out.length), TkOk lo w8 ms[j] out[j]) := fun w8 hK => by
        refine ⟨hrow0.later (fun g hg => ?_), fun j hj hj' => (hms3 j hj hj').later (fun g c hg hc => hK.block g (lt_some hc) (fun e => ?_))⟩
        · obtain ⟨c, hc⟩ := hrow0.kind g hg
          exact hK.block g (lt_some hc) (fun e => by
            obtain ⟨c', hc'⟩ := h.bld.kind e
            exact kinds_ne hc hc' (by decide))
        · obtain ⟨c', hc'⟩ := h.bld.kind e
          exact kinds_ne hc hc' (by decide)
      have htold : ∀ w8, KeepV tv w.drew w8 → ∀ v' w6, GRow TkE lo w6 v' (ms ++ [(⟨3, ⟨#[]⟩, none, 0, 0, ⟨text.toArray⟩, a⟩ : TkM)]) → (w8.alloc (.cells #[.int .i64 3, .string ⟨#[]⟩, .slice none 0 0, .string ⟨text.toArray⟩, .int .i64 (a : Int)] 27)).grownBy w6 (Value.slice oa on oc).ownBlock → (∀ k, k < w8.heap.size → (Value.slice oa on oc).ownBlock ≠ some k → w6.heap[k]? = w8.heap[k]?) ∧ RdT lo rb s at_ v' pv bp tv (a : Int) (out ++ [(⟨3, ⟨#[]⟩, [], ⟨text.toArray⟩, a⟩ : Tk)]) pile (w6.setCell ⟨rb, 2, none⟩ v') ∧ KeepX lo rb w8 (w6.setCell ⟨rb, 2, none⟩ v') := fun w8 hK v' w6 hr hg =>
        (hps w8 hK).told hms2 (hm8 w8 hK).2 rfl (fun j h h' => by
          obtain rfl : j = 0 := by simp at h; omega
          exact ⟨rfl, rfl, rfl, rfl, GRow.nil _ _ _⟩) hr hg
      have hpt : ∀ w8, KeepV tv w.drew w8 → ∀ v' w6, GRow TkE lo w6 v' (ms ++ [(⟨3, ⟨#[]⟩, none, 0, 0, ⟨text.toArray⟩, a⟩ : TkM)]) → (w8.alloc (.cells #[.int .i64 3, .string ⟨#[]⟩, .slice none 0 0, .string ⟨text.toArray⟩, .int .i64 (a : Int)] 27)).grownBy w6 (Value.slice oa on oc).ownBlock → RdT lo rb s at_ v' pv bp tv (a : Int) (out ++ [(⟨3, ⟨#[]⟩, [], ⟨text.toArray⟩, a⟩ : Tk)]) pile (w6.setCell ⟨rb, 2, none⟩ v') ∧ KeepX lo rb w (w6.setCell ⟨rb, 2, none⟩ v') := fun w8 hK v' w6 hr hg =>
        ⟨(htold w8 hK v' w6 hr hg).2.1, (hKd w8 hK).trans (htold w8 hK v' w6 hr hg).2.2⟩
      have hpack : ∀ w8, KeepV tv w.drew w8 → w8.cell? ⟨rb, 2, none⟩ = some (.slice oa on oc) ∧ lo ≤ w8.heap.size ∧ rb < w8.heap.size ∧ w8.cell? ⟨rb, 6, none⟩ = some (Value.int .i64 (a : Int)) ∧ (w8.alloc (.cells #[.int .i64 3, .string ⟨#[]⟩, .slice none 0 0, .string ⟨text.toArray⟩, .int .i64 (a : Int)] 27)).cell? ⟨rb, 6, none⟩ = some (Value.int .i64 (a : Int)) ∧ Hid (GRow TkE lo (w8.alloc (.cells #[.int .i64 3, .string ⟨#[]⟩, .slice none 0 0, .string ⟨text.toArray⟩, .int .i64 (a : Int)] 27)) (.slice oa on oc) ms) ∧
          Hid (∀ v' w6, GRow TkE lo w6 v' (ms ++ [(⟨3, ⟨#[]⟩, none, 0, 0, ⟨text.toArray⟩, a⟩ : TkM)]) → (w8.alloc (.cells #[.int .i64 3, .string ⟨#[]⟩, .slice none 0 0, .string ⟨text.toArray⟩, .int .i64 (a : Int)] 27)).grownBy w6 (Value.slice oa on oc).ownBlock → w6.frozen? ⟨rb, 2, none⟩ = false ∧ w6.cell? ⟨rb, 2, none⟩ = some (.slice oa on oc) ∧ w6.cell? ⟨rb, 6, none⟩ = some (Value.int .i64 (a : Int)) ∧ (w6.setCell ⟨rb, 2, none⟩ v').cell? ⟨rb, 6, none⟩ = some (Value.int .i64 (a : Int))) := fun w8 hK => by
        have h8 := hps w8 hK
        have hb8 : (w8.alloc (.cells #[.int .i64 3, .string ⟨#[]⟩, .slice none 0 0, .string ⟨text.toArray⟩, .int .i64 (a : Int)] 27)).heap[rb]? = w8.heap[rb]? := Lib.alloc_old w8 _ rb h8.blk.lt'
        refine ⟨h8.blk.cell 2, h8.lo, h8.blk.lt', h8.blk.cell 6, cellH (hb8.trans h8.blk) 6, Lib.hid ((hm8 w8 hK).1.on ((Below.refl _ _).alloc (Nat.le_refl _) _)), Lib.hid (fun v' w6 hr hg => ?_)⟩
        have hk := (htold w8 hK v' w6 hr hg).1
        have hb6 := (hk rb h8.blk.lt' (fun e => by have := (h8.out.own rb e).1; have := h8.rb; omega)).trans h8.blk
        exact ⟨freeH hb6 2, cellH hb6 2, cellH hb6 6, cellH (setH hb6 2 v') 6⟩
      have HPS := Lib.hid hpack; have HPT := Lib.hid hpt; have HSD := Lib.hid hSD
      have hrlt := h.blk.lt'
      clear h hx hR h4 hsz hrow0 hms2 hms3 hd hps hKd hm8 htold hpack hpt hSD
      go_enter Tryz.func72, Tryz.ntmps72
      go_wp2_with fail
      refine hLen.mono ?_
      rintro e w' ⟨rfl, rfl⟩
      go_upto_region 3 with fail
      refine wp_region_held_drew (S := fun w' => w'.cell? ⟨rb, 6, none⟩ = some (Value.int .i64 (a : Int))) (by kernel_rfl) (HSD.out) (fun hHeld => ?_)
      refine wpAnyH_take (i := 0) (v := ?_) rfl (by kernel_rfl) (by kernel_rfl) (by kernel_rfl) (fun _ _ _ h => h) (Or.inl ⟨by rfl, ?_⟩) hHeld ?_
      rotate_left
      · intro w hSw; (try dsimp only at hSw); first | (go_simp; done) | (go_simp; with_reducible rfl)
      try simp only [Act.put, List.setIfInBounds_toArray, List.set_cons_zero, List.set_cons_succ, List.getElem_toArray, List.getElem_cons_zero]
      refine wpAnyH_take (i := 1) (v := ?_) rfl (by kernel_rfl) (by kernel_rfl) (by kernel_rfl) (fun _ _ _ h => h) (Or.inl ⟨by rfl, ?_⟩) hHeld ?_
      rotate_left
      · intro w hSw; (try dsimp only at hSw); first | (go_simp; done) | (go_simp; with_reducible rfl)
      try simp only [Act.put, List.setIfInBounds_toArray, List.set_cons_zero, List.set_cons_succ, List.getElem_toArray, List.getElem_cons_zero, List.getElem_cons_succ]
      refine wpAnyH_take (i := 2) (v := ?_) rfl (by kernel_rfl) (by kernel_rfl) (by kernel_rfl) (fun _ _ _ h => h) (Or.inl ⟨by rfl, ?_⟩) hHeld ?_
      rotate_left
      · intro w hSw; (try dsimp only at hSw); first | (go_simp; done) | (go_simp; with_reducible rfl)
      try simp only [Act.put, List.setIfInBounds_toArray, List.set_cons_zero, List.set_cons_succ, List.getElem_toArray, List.getElem_cons_zero, List.getElem_cons_succ]
      refine wpAnyH_take (i := 3) (v := ?_) rfl (by kernel_rfl) (by kernel_rfl) (by kernel_rfl) (fun _ _ _ h => h) (Or.inl ⟨by rfl, ?_⟩) hHeld ?_
      rotate_left
      · intro w hSw; (try dsimp only at hSw); first | (go_simp; done) | (go_simp; with_reducible rfl)
      try simp only [Act.put, List.setIfInBounds_toArray, List.set_cons_zero, List.set_cons_succ, List.getElem_toArray, List.getElem_cons_zero, List.getElem_cons_succ]
      refine wpAnyH_take (i := 5) (v := ?_) rfl (by kernel_rfl) (by kernel_rfl) (by kernel_rfl) (fun _ _ _ h => h) (Or.inl ⟨by rfl, ?_⟩) hHeld ?_
      rotate_left
      · intro w hSw; (try dsimp only at hSw); first | (go_simp; done) | (go_simp; with_reducible rfl)
      try simp only [Act.put, List.setIfInBounds_toArray, List.set_cons_zero, List.set_cons_succ, List.getElem_toArray, List.getElem_cons_zero, List.getElem_cons_succ]
      refine wpAnyH_take (i := 6) (v := ?_) rfl (by kernel_rfl) (by kernel_rfl) (by kernel_rfl) (fun _ _ _ h => h) (Or.inl ⟨by rfl, ?_⟩) hHeld ?_
      rotate_left
      · intro w hSw; (try dsimp only at hSw); first | (go_simp; done) | (go_simp; with_reducible rfl)
      try simp only [Act.put, List.setIfInBounds_toArray, List.set_cons_zero, List.set_cons_succ, List.getElem_toArray, List.getElem_cons_zero, List.getElem_cons_succ]
      refine wpAnyH_take (i := 7) (v := ?_) rfl (by kernel_rfl) (by kernel_rfl) (by kernel_rfl) (fun _ _ _ h => h) (Or.inl ⟨by rfl, ?_⟩) hHeld ?_
      rotate_left
      · intro w hSw; (try dsimp only at hSw); first | (go_simp; done) | (go_simp; with_reducible rfl)
      try simp only [Act.put, List.setIfInBounds_toArray, List.set_cons_zero, List.set_cons_succ, List.getElem_toArray, List.getElem_cons_zero, List.getElem_cons_succ]
      refine wpAnyH_take (i := 9) (v := ?_) rfl (by kernel_rfl) (by kernel_rfl) (by kernel_rfl) (fun _ _ _ h => h) (Or.inl ⟨by rfl, ?_⟩) hHeld ?_
      rotate_left
      · intro w hSw; (try dsimp only at hSw); first | (go_simp; done) | (go_simp; with_reducible rfl)
      try simp only [Act.put, List.setIfInBounds_toArray, List.set_cons_zero, List.set_cons_succ, List.getElem_toArray, List.getElem_cons_zero, List.getElem_cons_succ]
      refine wpAnyH_take (i := 10) (v := ?_) rfl (by kernel_rfl) (by kernel_rfl) (by kernel_rfl) (fun _ _ _ h => h) (Or.inl ⟨by rfl, ?_⟩) hHeld ?_
      rotate_left
      · intro w hSw; (try dsimp only at hSw); first | (go_simp; done) | (go_simp; with_reducible rfl)
      try simp only [Act.put, List.setIfInBounds_toArray, List.set_cons_zero, List.set_cons_succ, List.getElem_toArray, List.getElem_cons_zero, List.getElem_cons_succ]
      refine wpAnyH_take (i := 11) (v := ?_) rfl (by kernel_rfl) (by kernel_rfl) (by kernel_rfl) (fun _ _ _ h => h) (Or.inl ⟨by rfl, ?_⟩) hHeld ?_
      rotate_left
      · intro w hSw; (try dsimp only at hSw); first | (go_simp; done) | (go_simp; with_reducible rfl)
      try simp only [Act.put, List.setIfInBounds_toArray, List.set_cons_zero, List.set_cons_succ, List.getElem_toArray, List.getElem_cons_zero, List.getElem_cons_succ]
      refine wpAnyH_take (i := 12) (v := ?_) rfl (by kernel_rfl) (by kernel_rfl) (by kernel_rfl) (fun _ _ _ h => h) (Or.inl ⟨by rfl, ?_⟩) hHeld ?_
      rotate_left
      · intro w hSw; (try dsimp only at hSw); first | (go_simp; done) | (go_simp; with_reducible rfl)
      try simp only [Act.put, List.setIfInBounds_toArray, List.set_cons_zero, List.set_cons_succ, List.getElem_toArray, List.getElem_cons_zero, List.getElem_cons_succ]
      refine wpAnyH_ready (rs := [4, 8]) (by kernel_rfl) (by simp) ?_
      refine AllReadyH.cons rfl (fun K hK => ?_) ?_
      go_simp
      refine hK.out _ _ (HSD.out) (fun hHeld => ?_)
      clear hK K
      refine wpAnyH_ready (rs := [8]) (by kernel_rfl) (by simp) ?_
      refine AllReadyH.cons rfl (fun K hK => ?_) AllReadyH.nil
      go_simp
      go_wp2_with (go_at_call 37; refine hstr.mono ?_; rintro e w8 ⟨rfl, hKV⟩; obtain ⟨c28, hr8, hlt8, hS8, hS8a, HRA, HPK⟩ := HPS.out w8 hKV)
      refine hK.out _ _ (hS8) (fun hHeld => ?_)
      clear hK K
      refine wpAnyH_take (i := 13) (v := ?_) rfl (by kernel_rfl) (by kernel_rfl) (by kernel_rfl) (fun _ _ _ h => h) (Or.inl ⟨by rfl, ?_⟩) hHeld ?_
      rotate_left
      · intro w hSw; (try dsimp only at hSw); first | (go_simp; done) | (go_simp; with_reducible rfl)
      try simp only [Act.put, List.setIfInBounds_toArray, List.set_cons_zero, List.set_cons_succ, List.getElem_toArray, List.getElem_cons_zero, List.getElem_cons_succ]
      refine wpAnyH_ready (rs := [14]) (by kernel_rfl) (by simp) ?_
      refine AllReadyH.cons rfl (fun K hK => ?_) AllReadyH.nil
      go_simp
      refine hK.out _ _ (hS8a) (fun hHeld => ?_)
      clear hK K
      refine wpAnyH_ready (rs := [15]) (by kernel_rfl) (by simp) ?_
      refine AllReadyH.cons rfl (fun K hK => ?_) AllReadyH.nil
      (refine step_snoc_g TkE (x := (⟨3, ⟨#[]⟩, none, 0, 0, ⟨text.toArray⟩, a⟩ : TkM)) rfl _ _ rfl lo (.slice oa on oc) ms rfl HRA.out 1 _ rfl (Blk.new _ _ _) hlen (Nat.le_trans hr8 (by simp)) ?_; intro v' w6 hrow6 hg6; obtain ⟨a', n', c', rfl⟩ := hrow6.form'; obtain ⟨f6, c6, hS6, hS6'⟩ := HPK.out _ _ hrow6 hg6)
      refine hK.out _ _ (hS6) (fun hHeld => ?_)
      clear hK K
      refine wpAnyH_take (i := 16) (v := ?_) rfl (by kernel_rfl) (by kernel_rfl) (by kernel_rfl) (fun _ _ _ h => h) (Or.inl ⟨by rfl, ?_⟩) hHeld ?_
      rotate_left
      · intro w hSw; (try dsimp only at hSw); first | (go_simp; done) | (go_simp; with_reducible rfl)
      try simp only [Act.put, List.setIfInBounds_toArray, List.set_cons_zero, List.set_cons_succ, List.getElem_toArray, List.getElem_cons_zero, List.getElem_cons_succ]
      refine wpAnyH_take (i := 17) (v := ?_) rfl (by kernel_rfl) (by kernel_rfl) (by kernel_rfl) (fun _ _ _ h => h) (Or.inl ⟨by rfl, ?_⟩) hHeld ?_
      rotate_left
      · intro w hSw; (try dsimp only at hSw); first | (go_simp; done) | (go_simp; with_reducible rfl)
      try simp only [Act.put, List.setIfInBounds_toArray, List.set_cons_zero, List.set_cons_succ, List.getElem_toArray, List.getElem_cons_zero, List.getElem_cons_succ]
      refine wpAnyH_ready (rs := [18]) (by kernel_rfl) (by simp) ?_
      refine AllReadyH.cons rfl (fun K hK => ?_) AllReadyH.nil
      go_simp
      refine hK.out _ _ (hS6') (fun hHeld => ?_)
      clear hK K
      refine wpAnyH_done (by kernel_rfl) ?_ _
      have hE := HPT.out _ hKV _ _ hrow6 hg6
      clear hHeld hS6' hS6 f6 c6 c28 hS8 hS8a HRA HPK
      generalize w6.setCell ⟨rb, 2, none⟩ (.slice a' n' c') = W9 at *
      clear hrow6 hg6 hKV
      have hrs := bReset_any rb 4 W9 _ _ (hE.1.blk.cell 4) (hE.1.blk.cell 5) (hE.1.blk.free 4) (hE.1.blk.free 5)
      go_wp2_with fail
      refine hrs.mono ?_
      rintro e W10 ⟨rfl, hW10⟩
      have hT10 := hE.1.reset
      have hK10 : KeepX lo rb w W10 := by rw [← hW10]; exact (hE.2.setCell _ _).setCell _ _
      rw [hW10] at hT10
      have d6 : W10.cell? ⟨rb, 6, none⟩ = some (.int .i64 (a : Int)) := hT10.blk.cell 6
      have d60 := hT10.blk.free 6
      clear hE hrs hW10
      go_wp2_with fail
      go_end0
      rw [HX.out]
      exact ⟨rfl, hK10.setCell _ _, _, _, _, hT10.set6 _⟩
      refine AllReadyH.cons rfl (fun K hK => ?_) ?_
      go_simp
      go_wp2_with (go_at_call 37; refine hstr.mono ?_; rintro e w8 ⟨rfl, hKV⟩; obtain ⟨c28, hr8, hlt8, hS8, hS8a, HRA, HPK⟩ := HPS.out w8 hKV)
      refine hK.out _ _ (hS8) (fun hHeld => ?_)
      clear hK K
      refine wpAnyH_take (i := 13) (v := ?_) rfl (by kernel_rfl) (by kernel_rfl) (by kernel_rfl) (fun _ _ _ h => h) (Or.inl ⟨by rfl, ?_⟩) hHeld ?_
      rotate_left
      · intro w hSw; (try dsimp only at hSw); first | (go_simp; done) | (go_simp; with_reducible rfl)
      try simp only [Act.put, List.setIfInBounds_toArray, List.set_cons_zero, List.set_cons_succ, List.getElem_toArray, List.getElem_cons_zero, List.getElem_cons_succ]
      refine wpAnyH_ready (rs := [4, 14]) (by kernel_rfl) (by simp) ?_
      refine AllReadyH.cons rfl (fun K hK => ?_) ?_
      go_simp
      refine hK.out _ _ (hS8) (fun hHeld => ?_)
      clear hK K
      refine wpAnyH_ready (rs := [14]) (by kernel_rfl) (by simp) ?_
      refine AllReadyH.cons rfl (fun K hK => ?_) AllReadyH.nil
      go_simp
      refine hK.out _ _ (hS8a) (fun hHeld => ?_)
      clear hK K
      refine wpAnyH_ready (rs := [15]) (by kernel_rfl) (by simp) ?_
      refine AllReadyH.cons rfl (fun K hK => ?_) AllReadyH.nil
      (refine step_snoc_g TkE (x := (⟨3, ⟨#[]⟩, none, 0, 0, ⟨text.toArray⟩, a⟩ : TkM)) rfl _ _ rfl lo (.slice oa on oc) ms rfl HRA.out 1 _ rfl (Blk.new _ _ _) hlen (Nat.le_trans hr8 (by simp)) ?_; intro v' w6 hrow6 hg6; obtain ⟨a', n', c', rfl⟩ := hrow6.form'; obtain ⟨f6, c6, hS6, hS6'⟩ := HPK.out _ _ hrow6 hg6)
      refine hK.out _ _ (hS6) (fun hHeld => ?_)
      clear hK K
      refine wpAnyH_take (i := 16) (v := ?_) rfl (by kernel_rfl) (by kernel_rfl) (by kernel_rfl) (fun _ _ _ h => h) (Or.inl ⟨by rfl, ?_⟩) hHeld ?_
      rotate_left
      · intro w hSw; (try dsimp only at hSw); first | (go_simp; done) | (go_simp; with_reducible rfl)
      try simp only [Act.put, List.setIfInBounds_toArray, List.set_cons_zero, List.set_cons_succ, List.getElem_toArray, List.getElem_cons_zero, List.getElem_cons_succ]
      refine wpAnyH_take (i := 17) (v := ?_) rfl (by kernel_rfl) (by kernel_rfl) (by kernel_rfl) (fun _ _ _ h => h) (Or.inl ⟨by rfl, ?_⟩) hHeld ?_
      rotate_left
      · intro w hSw; (try dsimp only at hSw); first | (go_simp; done) | (go_simp; with_reducible rfl)
      try simp only [Act.put, List.setIfInBounds_toArray, List.set_cons_zero, List.set_cons_succ, List.getElem_toArray, List.getElem_cons_zero, List.getElem_cons_succ]
      refine wpAnyH_ready (rs := [18]) (by kernel_rfl) (by simp) ?_
      refine AllReadyH.cons rfl (fun K hK => ?_) AllReadyH.nil
      go_simp
      refine hK.out _ _ (hS6') (fun hHeld => ?_)
      clear hK K
      refine wpAnyH_done (by kernel_rfl) ?_ _
      have hE := HPT.out _ hKV _ _ hrow6 hg6
      clear hHeld hS6' hS6 f6 c6 c28 hS8 hS8a HRA HPK
      generalize w6.setCell ⟨rb, 2, none⟩ (.slice a' n' c') = W9 at *
      clear hrow6 hg6 hKV
      have hrs := bReset_any rb 4 W9 _ _ (hE.1.blk.cell 4) (hE.1.blk.cell 5) (hE.1.blk.free 4) (hE.1.blk.free 5)
      go_wp2_with fail
      refine hrs.mono ?_
      rintro e W10 ⟨rfl, hW10⟩
      have hT10 := hE.1.reset
      have hK10 : KeepX lo rb w W10 := by rw [← hW10]; exact (hE.2.setCell _ _).setCell _ _
      rw [hW10] at hT10
      have d6 : W10.cell? ⟨rb, 6, none⟩ = some (.int .i64 (a : Int)) := hT10.blk.cell 6
      have d60 := hT10.blk.free 6
      clear hE hrs hW10
      go_wp2_with fail
      go_end0
      rw [HX.out]
      exact ⟨rfl, hK10.setCell _ _, _, _, _, hT10.set6 _⟩
      refine AllReadyH.cons rfl (fun K hK => ?_) ?_
      go_simp
      refine hK.out _ _ (hS8a) (fun hHeld => ?_)
      clear hK K
      refine wpAnyH_ready (rs := [4]) (by kernel_rfl) (by simp) ?_
      refine AllReadyH.cons rfl (fun K hK => ?_) AllReadyH.nil
      go_simp
      refine hK.out _ _ (hS8a) (fun hHeld => ?_)
      clear hK K
      refine wpAnyH_ready (rs := [15]) (by kernel_rfl) (by simp) ?_
      refine AllReadyH.cons rfl (fun K hK => ?_) AllReadyH.nil
      (refine step_snoc_g TkE (x := (⟨3, ⟨#[]⟩, none, 0, 0, ⟨text.toArray⟩, a⟩ : TkM)) rfl _ _ rfl lo (.slice oa on oc) ms rfl HRA.out 1 _ rfl (Blk.new _ _ _) hlen (Nat.le_trans hr8 (by simp)) ?_; intro v' w6 hrow6 hg6; obtain ⟨a', n', c', rfl⟩ := hrow6.form'; obtain ⟨f6, c6, hS6, hS6'⟩ := HPK.out _ _ hrow6 hg6)
      refine hK.out _ _ (hS6) (fun hHeld => ?_)
      clear hK K
      refine wpAnyH_take (i := 16) (v := ?_) rfl (by kernel_rfl) (by kernel_rfl) (by kernel_rfl) (fun _ _ _ h => h) (Or.inl ⟨by rfl, ?_⟩) hHeld ?_
      rotate_left
      · intro w hSw; (try dsimp only at hSw); first | (go_simp; done) | (go_simp; with_reducible rfl)
      try simp only [Act.put, List.setIfInBounds_toArray, List.set_cons_zero, List.set_cons_succ, List.getElem_toArray, List.getElem_cons_zero, List.getElem_cons_succ]
      refine wpAnyH_take (i := 17) (v := ?_) rfl (by kernel_rfl) (by kernel_rfl) (by kernel_rfl) (fun _ _ _ h => h) (Or.inl ⟨by rfl, ?_⟩) hHeld ?_
      rotate_left
      · intro w hSw; (try dsimp only at hSw); first | (go_simp; done) | (go_simp; with_reducible rfl)
      try simp only [Act.put, List.setIfInBounds_toArray, List.set_cons_zero, List.set_cons_succ, List.getElem_toArray, List.getElem_cons_zero, List.getElem_cons_succ]
      refine wpAnyH_ready (rs := [18]) (by kernel_rfl) (by simp) ?_
      refine AllReadyH.cons rfl (fun K hK => ?_) AllReadyH.nil
      go_simp
      refine hK.out _ _ (hS6') (fun hHeld => ?_)
      clear hK K
      refine wpAnyH_done (by kernel_rfl) ?_ _
      have hE := HPT.out _ hKV _ _ hrow6 hg6
      clear hHeld hS6' hS6 f6 c6 c28 hS8 hS8a HRA HPK
      generalize w6.setCell ⟨rb, 2, none⟩ (.slice a' n' c') = W9 at *
      clear hrow6 hg6 hKV
      have hrs := bReset_any rb 4 W9 _ _ (hE.1.blk.cell 4) (hE.1.blk.cell 5) (hE.1.blk.free 4) (hE.1.blk.free 5)
      go_wp2_with fail
      refine hrs.mono ?_
      rintro e W10 ⟨rfl, hW10⟩
      have hT10 := hE.1.reset
      have hK10 : KeepX lo rb w W10 := by rw [← hW10]; exact (hE.2.setCell _ _).setCell _ _
      rw [hW10] at hT10
      have d6 : W10.cell? ⟨rb, 6, none⟩ = some (.int .i64 (a : Int)) := hT10.blk.cell 6
      have d60 := hT10.blk.free 6
      clear hE hrs hW10
      go_wp2_with fail
      go_end0
      rw [HX.out]
      exact ⟨rfl, hK10.setCell _ _, _, _, _, hT10.set6 _⟩
      exact AllReadyH.nil
      rotate_left
      exact AllReadyH.nil
end

section
open Go.RowKit Go.PlainAid

section
variable {lo rb : Nat} {s : ByteArray} {at_ : Nat} {ov pv bp tv : Value} {fr : Int} {out : List Tk} {pile : List ByteArray} {text l : List UInt8} {w W w1 : World}
/-- A rune into the reader's own text. -/
theorem RdS.wrote (h : RdS lo rb s at_ ov pv bp tv fr out pile text w) (hB : Below w.heap.size w W) (hW : Wrote lo rb 4 97 #[.string s, .int .i64 (at_ : Int), ov, pv, bp, tv, .int .i64 fr] tv text l W w1) :
    ∃ v', RdS lo rb s at_ ov pv (.pointer (some ⟨rb, 4, none⟩)) v' fr out pile (text ++ l) w1 ∧ KeepX lo rb w w1 := by
  obtain ⟨v', h1, h2, h3⟩ := hW
  have hrb := h.rb
  have hO := h.on hB
  have hown := hO.out.own
  refine ⟨v', ⟨⟨h1.blk, .inr rfl, rfl, h1.row, h1.ne, h1.lies, h1.lo⟩, hO.out.later (fun g hg => ?_) (fun g c hg hc => h2.block g (lt_some hc) (by omega) (fun e => ?_)), hO.pile.later (fun g hg => h2.block g (hO.pile.lt g hg) (by have := hO.pile.own g hg; omega) (fun e => ?_)), hrb⟩,
    (KeepX.of hB h.bld.lo).trans ⟨h2.os, h2.tape, h2.output, h2.size, fun k hk hx => h2.block k (Nat.lt_of_lt_of_le hk hO.bld.lo) hx (fun e => by have := (hO.bld.own_lt e).1; omega)⟩⟩
  · obtain ⟨hl, c, hc⟩ := hown g hg
    exact h2.block g (lt_some hc) (by omega) (fun e => by
      obtain ⟨c', hc'⟩ := hO.bld.kind e
      exact kinds_ne hc hc' (by decide))
  · obtain ⟨c', hc'⟩ := hO.bld.kind e
    exact kinds_ne hc hc' (by decide)
  · obtain ⟨c, hc⟩ := hO.pile.kind g hg
    obtain ⟨c', hc'⟩ := hO.bld.kind e
    exact kinds_ne hc hc' (by decide)
/-- What rune comes to at the reader's own text. -/
def PieceEnd (lo rb : Nat) (s : ByteArray) (ov pv : Value) (fr : Int) (out : List Tk) (pile : List ByteArray) (text : List UInt8) (w : World) (x : Xr ByteArray) (en : Ending) (w' : World) : Prop :=
  match x with
  | .bad e a => en = Died e a ∧ KeepX lo rb w w'
  | .ok q b => en = .returned (.tuple #[]) ∧ KeepX lo rb w w' ∧ ∃ bp tv, RdS lo rb s q ov pv bp tv fr out pile (text ++ b.data.toList) w'
theorem piece_rd (h : RdS lo rb s at_ ov pv bp tv fr out pile text w) (hp : at_ ≤ s.size) (hz : s.size ≤ 4000000000) (hG : Gx w) (hacc : text.length ≤ 4 * at_) :
    Calls Tryz.prog 74 #[.pointer (some ⟨rb, 0, none⟩), .pointer (some ⟨rb, 4, none⟩)] w fun en w' => PieceEnd lo rb s ov pv fr out pile text w (pieceX s at_) en w' := by
  have hWS : ∀ (b : ByteArray) W, b.size ≤ s.size → Below w.heap.size w W → Calls Tryz.prog 39 #[.pointer (some ⟨rb, 4, none⟩), .string b] W fun e w' => (∃ a, e = .returned a) ∧ (Below w.heap.size w W ∧ Wrote lo rb 4 97 #[.string s, .int .i64 (at_ : Int), ov, pv, bp, tv, .int .i64 fr] tv text b.data.toList W w') := fun b W hbz hB =>
    (bWriteString (h.on hB).bld b (by omega) (by decide)).mono fun e w' ⟨h1, h2⟩ => ⟨⟨_, h1⟩, hB, h2⟩
  have hWR : ∀ (r : Int) W, okRune r → Below w.heap.size w W → Calls Tryz.prog 101 #[.pointer (some ⟨rb, 4, none⟩), .int .i32 r] W fun e w' => (∃ a, e = .returned a) ∧ (Below w.heap.size w W ∧ Wrote lo rb 4 97 #[.string s, .int .i64 (at_ : Int), ov, pv, bp, tv, .int .i64 fr] tv text (Lib.encodeRune r) W w') := fun r W hr hB =>
    (bWriteRune (h.on hB).bld r hr (by omega) (by decide)).mono fun e w' ⟨h1, h2⟩ => ⟨h1, hB, h2⟩
  have hRd : ∀ l W W', (Below w.heap.size w W ∧ Wrote lo rb 4 97 #[.string s, .int .i64 (at_ : Int), ov, pv, bp, tv, .int .i64 fr] tv text l W W') → ∃ cs', Rdr rb s at_ cs' W' := fun l W W' hP => by
    obtain ⟨v', hR, _⟩ := h.wrote hP.1 hP.2
    exact ⟨_, hR.rdr⟩
  refine (rune_gen (.pointer (some ⟨rb, 4, none⟩)) (fun l W W' => Below w.heap.size w W ∧ Wrote lo rb 4 97 #[.string s, .int .i64 (at_ : Int), ov, pv, bp, tv, .int .i64 fr] tv text l W W') h.rdr hp hz hG hWS hWR hRd).mono ?_
  intro e w' hE
  unfold RuneEnd at hE
  unfold PieceEnd
  cases hpx : pieceX s at_ with
  | bad ee aa =>
    rw [hpx] at hE
    exact ⟨hE.1, KeepX.of hE.2 h.bld.lo⟩
  | ok q b =>
    rw [hpx] at hE
    obtain ⟨he, W, w1, hBW, ⟨hBW', hWr⟩, rfl⟩ := hE
    obtain ⟨v', hR, hK⟩ := h.wrote hBW hWr
    exact ⟨he, hK.setCell _ _, _, _, hR.set1 q⟩
end
section
variable {s : ByteArray} {f p : Nat} {out : List Tk} {pile : List ByteArray} {text : ByteArray} {fr : Option Nat}
theorem holdF_done : holdF s (f + 1) p out [] text fr = .ok p out := by
  conv => lhs; unfold holdF
  rw [if_pos rfl]
theorem holdF_cmt (h : pile ≠ []) (hc : isCmt s p = true) : holdF s (f + 1) p out pile text fr = match cmtX s p with
      | .bad e a => .bad e a
      | .ok q _ => holdF s f q out pile text fr := by
  conv => lhs; unfold holdF
  rw [if_neg h, if_pos hc]
  cases cmtX s p <;> rfl
theorem holdF_end (h : pile ≠ []) (hc : isCmt s p = false) (h2 : wdAt s p [60, 47] = true) : holdF s (f + 1) p out pile text fr = match tellX out text fr with
      | .bad e a => .bad e a
      | .ok _ out' => match endX s p (pile.getLastD ⟨#[]⟩) with
        | .bad e a => .bad e a
        | .ok q nm => holdF s f q (out' ++ [⟨2, nm, [], ⟨#[]⟩, p⟩]) pile.dropLast ⟨#[]⟩ none := by
  conv => lhs; unfold holdF
  rw [if_neg h, if_neg (by rw [hc]; simp), if_pos h2]
  cases tellX out text fr with
  | bad e a => rfl
  | ok _ out' =>
    simp only
    cases endX s p (pile.getLastD ⟨#[]⟩) <;> rfl
theorem holdF_beg (h : pile ≠ []) (hc : isCmt s p = false) (h2 : wdAt s p [60, 47] = false) (h3 : bt s p = 60) : holdF s (f + 1) p out pile text fr = match tellX out text fr with
      | .bad e a => .bad e a
      | .ok _ out' => match begX s p pile.length with
        | .bad e a => .bad e a
        | .ok q x => holdF s f q (out' ++ begT p x.1 x.2.1 x.2.2) (if x.2.1 = true then pile else pile ++ [x.1]) ⟨#[]⟩ none := by
  conv => lhs; unfold holdF
  rw [if_neg h, if_neg (by rw [hc]; simp), if_neg (by rw [h2]; simp), if_pos h3]
  cases tellX out text fr with
  | bad e a => rfl
  | ok _ out' =>
    simp only
    cases begX s p pile.length with
    | bad e a => rfl
    | ok q x =>
      obtain ⟨nm, sh, l⟩ := x
      cases sh <;> rfl
theorem holdF_bad (h : pile ≠ []) (hc : isCmt s p = false) (h2 : wdAt s p [60, 47] = false) (h3 : bt s p ≠ 60) (h4 : s.size ≤ p ∨ wdAt s p [93, 93, 62] = true) : holdF s (f + 1) p out pile text fr = .bad 140 p := by
  conv => lhs; unfold holdF
  rw [if_neg h, if_neg (by rw [hc]; simp), if_neg (by rw [h2]; simp), if_neg h3, if_pos h4]
theorem holdF_piece (h : pile ≠ []) (hc : isCmt s p = false) (h2 : wdAt s p [60, 47] = false) (h3 : bt s p ≠ 60) (h4 : ¬ (s.size ≤ p ∨ wdAt s p [93, 93, 62] = true)) : holdF s (f + 1) p out pile text fr = match pieceX s p with
      | .bad e a => .bad e a
      | .ok q b => holdF s f q out pile (text ++ b) (some (fr.getD p)) := by
  conv => lhs; unfold holdF
  rw [if_neg h, if_neg (by rw [hc]; simp), if_neg (by rw [h2]; simp), if_neg h3, if_neg h4]
  cases pieceX s p <;> rfl
theorem tellX_ok {u : Nat} {o2 : List Tk} (h : tellX out text fr = .ok u o2) : o2.length ≤ out.length + 1 := by
  unfold tellX at h
  cases fr with
  | none => injection h with _ h; subst h; omega
  | some a =>
    simp only at h
    split at h
    · cases h
    · injection h with _ h
      subst h
      simp
theorem begT_len (p : Nat) (nm : ByteArray) (sh : Bool) (l : List At2) : (begT p nm sh l).length ≤ 2 := by cases sh <;> simp [begT]
theorem begX_pile {n r : Nat} {x : ByteArray × Bool × List At2} (h : begX s p n = .ok r x) : n ≠ 64 := by
  unfold begX at h
  cases hn : nameX s (p + 1) with
  | bad e a => rw [hn] at h; cases h
  | ok q nm =>
    rw [hn] at h
    simp only at h
    split at h
    · cases h
    · assumption
end
/-- What holds comes to. -/
def HoldEnd (lo rb : Nat) (s : ByteArray) (w : World) (x : Xr (List Tk)) (en : Ending) (w' : World) : Prop :=
  match x with
  | .bad e a => en = Died e a ∧ KeepX lo rb w w'
  | .ok q out => en = .returned (.tuple #[]) ∧ q ≤ s.size ∧ KeepX lo rb w w' ∧ ∃ ov pv bp tv fr pile text, RdS lo rb s q ov pv bp tv fr out pile text w'

set_option maxRecDepth 100000 in
set_option maxHeartbeats 16000000 in
theorem holds_any {lo rb : Nat} {s : ByteArray} {at_ : Nat} {ov pv bp tv : Value} {from_ : Option Nat} {out : List Tk} {pile : List ByteArray} {text : List UInt8} {w : World} (h : RdS lo rb s at_ ov pv bp tv (frI from_) out pile text w) (ha : at_ ≤ s.size) (hz : s.size ≤ 262144) (hG : ∀ W, KeepX lo rb w W → Gx W) (hpl : pile.length ≤ 64) (hol : out.length ≤ 2 * at_) (htl : text.length ≤ 4 * at_) (hf0 : from_ = none → text = []) :
    Calls Tryz.prog 47 #[.pointer (some ⟨rb, 0, none⟩)] w fun en w' => HoldEnd lo rb s w (holdF s (s.size + 1 - at_) at_ out pile ⟨text.toArray⟩ from_) en w' := by
  obtain ⟨R, hR⟩ : ∃ R, holdF s (s.size + 1 - at_) at_ out pile ⟨text.toArray⟩ from_ = R := ⟨_, rfl⟩
  rw [hR]
  have HH := Lib.hid h; have HG := Lib.hid hG; have HR := Lib.hid hR
  clear h hG hR
  go_enter Tryz.func47, Tryz.ntmps47
  go_wp2_with fail
  go_loopg [] (s.size + 1 - at_) (fun f wx => ∃ (p g : Nat) (out : List Tk) (pile : List ByteArray) (text : List UInt8) (from_ : Option Nat) (ov pv bp tv : Value), f + p = s.size + 1 ∧ p ≤ s.size ∧ s.size < p + g ∧ pile.length ≤ 64 ∧ out.length ≤ 2 * p ∧ text.length ≤ 4 * p ∧ (from_ = none → text = []) ∧ R = holdF s g p out pile ⟨text.toArray⟩ from_ ∧ RdS lo rb s p ov pv bp tv (frI from_) out pile text wx ∧ KeepX lo rb w wx)
  case atStart => exact ⟨at_, s.size + 1 - at_, out, pile, text, from_, ov, pv, bp, tv, by omega, ha, by omega, hpl, hol, htl, hf0, HR.out.symm, HH.out, KeepX.refl _ _ _⟩
  case round =>
    clear hpl hol htl hf0 HH HR ha
    clear out pile text from_ ov pv bp tv
    obtain ⟨p, g, out, pile, text, from_, ov, pv, bp, tv, hg, hp, hgf, hpl, hol, htl, hf0, hres, hRd, hKp⟩ := hrel
    obtain ⟨g, rfl⟩ : ∃ k, g = k + 1 := ⟨g - 1, by omega⟩
    obtain ⟨pa, pn, pc, hpv⟩ := hRd.pile.form'
    have hpn : pn = pile.length := by
      obtain ⟨_, _, e⟩ := hRd.pile.form
      rw [hpv] at e
      injection e
    subst hpv
    have c3 : wr.cell? ⟨rb, 3, none⟩ = some (.slice pa pn pc) := hRd.blk.cell 3
    have HM := Lib.hid (And.intro hg hgf); have HRD := Lib.hid hRd; have HK := Lib.hid hKp; have HRES := Lib.hid hres; have HPN := Lib.hid hpn; have HF0 := Lib.hid hf0; have HB := Lib.hid (And.intro hpl (And.intro hol htl))
    clear hg hgf hRd hKp hres hf0 hpl hol htl
    by_cases hpe : pile = []
    · subst hpe
      have hI : ¬ (0 : Int) < (pn : Int) := by rw [hpn]; simp
      have HX := Lib.hid (HRES.out.trans holdF_done)
      clear hpn
      go_wp2_with fail
      go_end0
      rw [HX.out]
      exact ⟨rfl, hp, HK.out, _, _, _, _, _, _, _, HRD.out⟩
    · have hI : (0 : Int) < (pn : Int) := by
        have : pile.length ≠ 0 := fun e => hpe (List.length_eq_zero_iff.1 e)
        omega
      have HPE := Lib.hid hpe
      have c0 : wr.cell? ⟨rb, 0, none⟩ = some (.string s) := HRD.out.rdr.cell0
      have c1 : wr.cell? ⟨rb, 1, none⟩ = some (.int .i64 (p : Int)) := HRD.out.rdr.cell1
      have hp0 : (0 : Int) ≤ p := by omega
      have hps : (p : Int) ≤ s.size := by omega
      have hp2 : ∀ W, Calls Tryz.prog 33 #[.string (s.extract p s.size), .string ⟨#[60, 47]⟩] W fun e w' => e = .returned (.bool (wdAt s p [60, 47])) ∧ W = w' := fun W => prefix_at s p [60, 47] (by decide) W
      have hp1 : ∀ W, Calls Tryz.prog 33 #[.string (s.extract p s.size), .string ⟨#[60]⟩] W fun e w' => e = .returned (.bool (wdAt s p [60])) ∧ W = w' := fun W => prefix_at s p [60] (by decide) W
      have hp3 : ∀ W, Calls Tryz.prog 33 #[.string (s.extract p s.size), .string ⟨#[93, 93, 62]⟩] W fun e w' => e = .returned (.bool (wdAt s p [93, 93, 62])) ∧ W = w' := fun W => prefix_at s p [93, 93, 62] (by decide) W
      have hw1 : wdAt s p [60] = (bt s p == 60) := by simp [wdAt]
      rw [hw1] at hp1
      clear hpe hw1
      go_upto_region 1 with fail
      go_quiet (fail)
      have hR1 := HRD.out.on (bdN0 (Below.refl _ _) nq)
      have hK1 : KeepX lo rb w (wr.drewN nq) := HK.out.trans (KeepX.of (bdN0 (Below.refl _ _) nq) HRD.out.bld.lo)
      clear c0 c1 c3
      generalize wr.drewN nq = W1 at *
      have hco := comments_any hR1.rdr hp (by omega) (fun W hW => (HG.out W (hK1.trans (hW.mono hR1.bld.lo))).1)
      have HR1 := Lib.hid hR1; have HK1 := Lib.hid hK1
      clear hR1 hK1 HRD HK
      go_wp2_with fail
      refine hco.mono ?_
      clear hco
      rintro e w2 (⟨hc, rfl, hM2⟩ | ⟨hc, hS⟩)
      · have hR2 := HR1.out.moved hM2
        have hK2 := HK1.out.trans (HR1.out.keep hM2)
        have HC := Lib.hid hc; have HR2 := Lib.hid hR2; have HK2 := Lib.hid hK2
        clear hc hM2 hR2 hK2 HR1 HK1
        by_cases h2 : wdAt s p [60, 47] = true
        · have hin2 := wdAt_in h2 (by decide) hp
          simp only [List.length_cons, List.length_nil] at hin2
          have HX := Lib.hid (HRES.out.trans (holdF_end HPE.out HC.out h2))
          rw [h2] at hp2
          have htell := tell_any HR2.out (by have := HB.out.2.1; omega) HF0.out
          have HTELL := Lib.hid htell
          clear h2 htell hp1 hp3
          go_wp2_with fail
          refine (hp2 _).mono ?_
          rintro e w' ⟨rfl, rfl⟩
          go_wp2_with fail
          refine HTELL.out.mono ?_
          clear HTELL
          intro e w3 hE
          cases ht : tellX out ⟨text.toArray⟩ from_ with
          | bad ee aa =>
            rw [ht] at hE
            obtain ⟨rfl, hK3⟩ := hE
            have hx := HX.out
            rw [ht] at hx
            have HXX := Lib.hid (show R = .bad ee aa from hx)
            have HK3 := Lib.hid (HK2.out.trans hK3)
            clear hx hK3 ht
            go_wp2_with fail
            refine ⟨rfl, ?_⟩
            rw [HXX.out]
            exact ⟨rfl, HK3.out⟩
          | ok u o2 =>
            rw [ht] at hE
            obtain ⟨rfl, hK3, ov3, bp3, tv3, hR3⟩ := hE
            have hx := HX.out
            rw [ht] at hx
            have hol2 := tellX_ok ht
            have hK3 := HK2.out.trans hK3
            have hend := end_any hR3 hin2 (by omega) (by have := HB.out.2.1; omega) HB.out.1 HPE.out
            have HXX := Lib.hid hx; have HK3 := Lib.hid hK3; have HR3 := Lib.hid hR3; have HEND := Lib.hid hend; have HOL := Lib.hid hol2
            clear hx hK3 hR3 hend ht hol2
            go_wp2_with fail
            refine HEND.out.mono ?_
            clear HEND
            intro e w4 hE
            cases hen : endX s p (pile.getLastD ⟨#[]⟩) with
            | bad ee aa =>
              rw [hen] at hE
              obtain ⟨rfl, hK4⟩ := hE
              have hx := HXX.out
              rw [hen] at hx
              have HX4 := Lib.hid (show R = .bad ee aa from hx)
              have HK4 := Lib.hid (HK3.out.trans hK4)
              clear hx hK4 hen
              go_wp2_with fail
              refine ⟨rfl, ?_⟩
              rw [HX4.out]
              exact ⟨rfl, HK4.out⟩
            | ok q nm =>
              rw [hen] at hE
              obtain ⟨rfl, hK4, ov4, pv4, hR4⟩ := hE
              obtain ⟨hq1, hq2⟩ := endX_in hen hin2
              have hx := HXX.out
              rw [hen] at hx
              have HX4 := Lib.hid (show R = holdF s g q (o2 ++ [⟨2, nm, [], ⟨#[]⟩, p⟩]) pile.dropLast ⟨#[]⟩ none from hx)
              have HK4 := Lib.hid (HK3.out.trans hK4); have HR4 := Lib.hid hR4; have HQ1 := Lib.hid hq1
              clear hx hK4 hen hR4 hq1
              go_wp2_with fail
              go_roundg (s.size + 1 - q)
              case rel => exact ⟨q, g, _, pile.dropLast, [], none, ov4, pv4, bp3, tv3, by omega, hq2, by have := HM.out; have := HQ1.out; omega, by rw [List.length_dropLast]; have := HB.out.1; omega, by rw [List.length_append, List.length_singleton]; have := HOL.out; have := HB.out.2.1; have := HQ1.out; omega, by simp, fun _ => rfl, HX4.out, HR4.out, HK4.out⟩
              case measure => have := HM.out; have := HQ1.out; omega
        · have h2f : wdAt s p [60, 47] = false := by simpa using h2
          rw [h2f] at hp2
          have H2 := Lib.hid h2f
          clear h2 h2f
          by_cases h60 : bt s p = 60
          · have hlt : p < s.size := by
              by_cases hp : p < s.size
              · exact hp
              · rw [bt_end s (by omega)] at h60; omega
            have HX := Lib.hid (HRES.out.trans (holdF_beg HPE.out HC.out H2.out h60))
            rw [h60] at hp1
            have htell := tell_any HR2.out (by have := HB.out.2.1; omega) HF0.out
            have HTELL := Lib.hid htell; have HLT := Lib.hid hlt
            clear htell hp3 h60 hlt
            go_wp2_with fail
            refine (hp2 _).mono ?_
            rintro e w' ⟨rfl, rfl⟩
            go_wp2_with fail
            refine (hp1 _).mono ?_
            rintro e w' ⟨rfl, rfl⟩
            go_wp2_with fail
            refine HTELL.out.mono ?_
            clear HTELL
            intro e w3 hE
            cases ht : tellX out ⟨text.toArray⟩ from_ with
            | bad ee aa =>
              rw [ht] at hE
              obtain ⟨rfl, hK3⟩ := hE
              have hx := HX.out
              rw [ht] at hx
              have HXX := Lib.hid (show R = .bad ee aa from hx)
              have HK3 := Lib.hid (HK2.out.trans hK3)
              clear hx hK3 ht
              go_wp2_with fail
              refine ⟨rfl, ?_⟩
              rw [HXX.out]
              exact ⟨rfl, HK3.out⟩
            | ok u o2 =>
              rw [ht] at hE
              obtain ⟨rfl, hK3, ov3, bp3, tv3, hR3⟩ := hE
              have hx := HX.out
              rw [ht] at hx
              have hol2 := tellX_ok ht
              have hK3 := HK2.out.trans hK3
              have hbeg := begin_any hR3 HLT.out (by omega) (fun W hW => HG.out W (hK3.trans hW)) (by have := HB.out.2.1; omega) HB.out.1
              have HXX := Lib.hid hx; have HK3 := Lib.hid hK3; have HR3 := Lib.hid hR3; have HBEG := Lib.hid hbeg; have HOL := Lib.hid hol2
              clear hx hK3 hR3 hbeg ht hol2
              go_wp2_with fail
              refine HBEG.out.mono ?_
              clear HBEG
              intro e w4 hE
              cases hen : begX s p pile.length with
              | bad ee aa =>
                rw [hen] at hE
                obtain ⟨rfl, hK4⟩ := hE
                have hx := HXX.out
                rw [hen] at hx
                have HX4 := Lib.hid (show R = .bad ee aa from hx)
                have HK4 := Lib.hid (HK3.out.trans hK4)
                clear hx hK4 hen
                go_wp2_with fail
                refine ⟨rfl, ?_⟩
                rw [HX4.out]
                exact ⟨rfl, HK4.out⟩
              | ok q x =>
                obtain ⟨nm, sh, l⟩ := x
                rw [hen] at hE
                obtain ⟨rfl, hK4, ov4, pv4, hR4⟩ := hE
                obtain ⟨hq1, hq2⟩ := begX_in hen HLT.out
                have hp64 := begX_pile hen
                have hx := HXX.out
                rw [hen] at hx
                have HX4 := Lib.hid (show R = holdF s g q (o2 ++ begT p nm sh l) (if sh = true then pile else pile ++ [nm]) ⟨#[]⟩ none from hx)
                have HK4 := Lib.hid (HK3.out.trans hK4); have HR4 := Lib.hid hR4; have HQ1 := Lib.hid hq1; have HP64 := Lib.hid hp64
                clear hx hK4 hen hR4 hq1 hp64
                go_wp2_with fail
                go_roundg (s.size + 1 - q)
                case rel => exact ⟨q, g, _, _, [], none, ov4, pv4, bp3, tv3, by omega, hq2, by have := HM.out; have := HQ1.out; omega, by have := HB.out.1; have := HP64.out; cases sh <;> simp <;> omega, by rw [List.length_append]; have := begT_len p nm sh l; have := HOL.out; have := HB.out.2.1; have := HQ1.out; omega, by simp, fun _ => rfl, HX4.out, HR4.out, HK4.out⟩
                case measure => have := HM.out; have := HQ1.out; omega
          · have h60n : (bt s p == 60) = false := by simpa using h60
            rw [h60n] at hp1
            have H60 := Lib.hid h60
            have hrz : (s.extract p s.size).size = s.size - p := rest_size s p hp
            clear h60 h60n
            by_cases hend : s.size ≤ p
            · have HX := Lib.hid (HRES.out.trans (holdF_bad HPE.out HC.out H2.out H60.out (.inl hend)))
              have hnil := bytes_nil (X := s.extract p s.size) (by omega)
              have hwn := want_no HR2.out.rdr
              clear hp3 hend hrz
              go_wp2_with fail
              refine (hp2 _).mono ?_
              rintro e w' ⟨rfl, rfl⟩
              go_wp2_with fail
              refine (hp1 _).mono ?_
              rintro e w' ⟨rfl, rfl⟩
              go_wp2_with fail
              refine hwn.mono ?_
              rintro e w' ⟨rfl, rfl⟩
              go_wp2_with fail
              refine ⟨rfl, ?_⟩
              rw [HX.out]
              exact ⟨rfl, HK2.out⟩
            · have hne := bytes_ne (X := s.extract p s.size) (by omega)
              by_cases h93 : wdAt s p [93, 93, 62] = true
              · have HX := Lib.hid (HRES.out.trans (holdF_bad HPE.out HC.out H2.out H60.out (.inr h93)))
                rw [h93] at hp3
                have hwn := want_no HR2.out.rdr
                clear h93 hend hrz
                go_wp2_with fail
                refine (hp2 _).mono ?_
                rintro e w' ⟨rfl, rfl⟩
                go_wp2_with fail
                refine (hp1 _).mono ?_
                rintro e w' ⟨rfl, rfl⟩
                go_wp2_with fail
                refine (hp3 _).mono ?_
                rintro e w' ⟨rfl, rfl⟩
                go_wp2_with fail
                refine hwn.mono ?_
                rintro e w' ⟨rfl, rfl⟩
                go_wp2_with fail
                refine ⟨rfl, ?_⟩
                rw [HX.out]
                exact ⟨rfl, HK2.out⟩
              · have h93n : wdAt s p [93, 93, 62] = false := by simpa using h93
                have HX := Lib.hid (HRES.out.trans (holdF_piece HPE.out HC.out H2.out H60.out (by
                  rintro (h | h)
                  · exact hend h
                  · exact h93 h)))
                rw [h93n] at hp3
                have hwy := fun W => want_yes (.pointer (some ⟨rb, 0, none⟩)) W
                have c6 : w2.cell? ⟨rb, 6, none⟩ = some (.int .i64 (frI from_)) := HR2.out.blk.cell 6
                clear h93 h93n hend hrz
                cases from_ with
                | none =>
                  obtain rfl := HF0.out rfl
                  have hfr : frI none < 0 := by decide
                  have hfr1 : frI none = -1 := rfl
                  rw [hfr1] at c6
                  have c1 : w2.cell? ⟨rb, 1, none⟩ = some (.int .i64 (p : Int)) := HR2.out.rdr.cell1
                  have d6 := HR2.out.blk.free 6
                  have hR3 := HR2.out.set6 (p : Int)
                  have hK3 := HK2.out.setCell 6 (.int .i64 (p : Int))
                  have hru := piece_rd hR3 hp (by omega) (HG.out _ hK3) (by simp)
                  have HRU := Lib.hid hru; have HR3 := Lib.hid hR3; have HK3 := Lib.hid hK3
                  clear hru hR3 hK3 hfr hfr1
                  go_wp2_with fail
                  refine (hp2 _).mono ?_
                  rintro e w' ⟨rfl, rfl⟩
                  go_wp2_with fail
                  refine (hp1 _).mono ?_
                  rintro e w' ⟨rfl, rfl⟩
                  go_wp2_with fail
                  refine (hp3 _).mono ?_
                  rintro e w' ⟨rfl, rfl⟩
                  go_wp2_with fail
                  refine (hwy _).mono ?_
                  rintro e w' ⟨rfl, rfl⟩
                  go_wp2_with fail
                  refine HRU.out.mono ?_
                  clear HRU
                  intro e wz hE
                  unfold PieceEnd at hE
                  cases hpx : pieceX s p with
                  | bad ee aa =>
                    rw [hpx] at hE
                    obtain ⟨rfl, hK4⟩ := hE
                    have hx := HX.out
                    rw [hpx] at hx
                    have HXX := Lib.hid (show R = .bad ee aa from hx)
                    have HK4 := Lib.hid (HK3.out.trans hK4)
                    clear hx hK4 hpx
                    go_wp2_with fail
                    refine ⟨rfl, ?_⟩
                    rw [HXX.out]
                    exact ⟨rfl, HK4.out⟩
                  | ok q b =>
                    rw [hpx] at hE
                    obtain ⟨rfl, hK4, bp4, tv4, hR4⟩ := hE
                    obtain ⟨hq1, hq2, hq3⟩ := piece_in hpx hp
                    have hx := HX.out
                    rw [hpx] at hx
                    have hx2 : R = holdF s g q out pile (⟨([] : List UInt8).toArray⟩ ++ b) (some p) := hx
                    rw [toA_append] at hx2
                    have hlen : ([] ++ b.data.toList).length ≤ 4 * q := by
                      rw [List.length_append]
                      have := HB.out.2.2
                      have e : b.data.toList.length = b.size := rfl
                      simp only [List.length_nil] at *
                      omega
                    have HXX := Lib.hid hx2; have HK4 := Lib.hid (HK3.out.trans hK4); have HR4 := Lib.hid hR4; have HQ := Lib.hid (And.intro hq1 hlen)
                    clear hx hx2 hK4 hR4 hpx hq1 hq3 hlen
                    go_wp2_with fail
                    go_roundg (s.size + 1 - q)
                    case rel => exact ⟨q, g, out, pile, [] ++ b.data.toList, some p, _, _, bp4, tv4, by omega, hq2, by have := HM.out; have := HQ.out.1; omega, HB.out.1, by have := HB.out; have := HQ.out.1; omega, HQ.out.2, fun h => (by cases h), HXX.out, HR4.out, HK4.out⟩
                    case measure => have := HM.out; have := HQ.out.1; omega
                | some a0 =>
                  have hfr : ¬ (a0 : Int) < 0 := by omega
                  change w2.cell? ⟨rb, 6, none⟩ = some (.int .i64 (a0 : Int)) at c6
                  have hru := piece_rd HR2.out hp (by omega) (HG.out _ HK2.out) HB.out.2.2
                  have HRU := Lib.hid hru
                  clear hru
                  go_wp2_with fail
                  refine (hp2 _).mono ?_
                  rintro e w' ⟨rfl, rfl⟩
                  go_wp2_with fail
                  refine (hp1 _).mono ?_
                  rintro e w' ⟨rfl, rfl⟩
                  go_wp2_with fail
                  refine (hp3 _).mono ?_
                  rintro e w' ⟨rfl, rfl⟩
                  go_wp2_with fail
                  refine (hwy _).mono ?_
                  rintro e w' ⟨rfl, rfl⟩
                  go_wp2_with fail
                  refine HRU.out.mono ?_
                  clear HRU
                  intro e wz hE
                  unfold PieceEnd at hE
                  cases hpx : pieceX s p with
                  | bad ee aa =>
                    rw [hpx] at hE
                    obtain ⟨rfl, hK4⟩ := hE
                    have hx := HX.out
                    rw [hpx] at hx
                    have HXX := Lib.hid (show R = .bad ee aa from hx)
                    have HK4 := Lib.hid (HK2.out.trans hK4)
                    clear hx hK4 hpx
                    go_wp2_with fail
                    refine ⟨rfl, ?_⟩
                    rw [HXX.out]
                    exact ⟨rfl, HK4.out⟩
                  | ok q b =>
                    rw [hpx] at hE
                    obtain ⟨rfl, hK4, bp4, tv4, hR4⟩ := hE
                    obtain ⟨hq1, hq2, hq3⟩ := piece_in hpx hp
                    have hx := HX.out
                    rw [hpx] at hx
                    have hx2 : R = holdF s g q out pile (⟨(text : List UInt8).toArray⟩ ++ b) (some a0) := hx
                    rw [toA_append] at hx2
                    have hlen : (text ++ b.data.toList).length ≤ 4 * q := by
                      rw [List.length_append]
                      have := HB.out.2.2
                      have e : b.data.toList.length = b.size := rfl
                      omega
                    have HXX := Lib.hid hx2; have HK4 := Lib.hid (HK2.out.trans hK4); have HR4 := Lib.hid hR4; have HQ := Lib.hid (And.intro hq1 hlen)
                    clear hx hx2 hK4 hR4 hpx hq1 hq3 hlen
                    go_wp2_with fail
                    go_roundg (s.size + 1 - q)
                    case rel => exact ⟨q, g, out, pile, text ++ b.data.toList, some a0, _, _, bp4, tv4, by omega, hq2, by have := HM.out; have := HQ.out.1; omega, HB.out.1, by have := HB.out; have := HQ.out.1; omega, HQ.out.2, fun h => (by cases h), HXX.out, HR4.out, HK4.out⟩
                    case measure => have := HM.out; have := HQ.out.1; omega
      · have he := HRES.out.trans (holdF_cmt HPE.out hc)
        cases hx : cmtX s p with
        | bad ee aa =>
          rw [hx] at hS he
          obtain ⟨rfl, hK2⟩ := hS
          have HX := Lib.hid (show R = .bad ee aa from he)
          have HK2 := Lib.hid (HK1.out.trans (hK2.mono HR1.out.bld.lo))
          clear he hx hK2 hc hp1 hp2 hp3
          go_wp2_with fail
          refine ⟨rfl, ?_⟩
          rw [HX.out]
          exact ⟨rfl, HK2.out⟩
        | ok q u =>
          have hin := cmtX_in hx hc hp
          rw [hx] at hS he
          obtain ⟨rfl, hM2⟩ := hS
          have HX := Lib.hid (show R = holdF s g q out pile ⟨text.toArray⟩ from_ from he)
          have HR2 := Lib.hid (HR1.out.moved hM2)
          have HK2 := Lib.hid (HK1.out.trans (HR1.out.keep hM2)); have HIN := Lib.hid hin
          clear he hx hM2 hc hp1 hp2 hp3 hin
          go_wp2_with fail
          go_roundg (s.size + 1 - q)
          case rel => exact ⟨q, g, out, pile, text, from_, _, _, _, _, by have := HIN.out; omega, HIN.out.2, by have := HM.out; have := HIN.out; omega, HB.out.1, by have := HB.out; have := HIN.out; omega, by have := HB.out; have := HIN.out; omega, HF0.out, HX.out, HR2.out, HK2.out⟩
          case measure => have := HM.out; have := HIN.out; omega
end
end Go.Proofs.YtdipbfchlopeaaaGreatDoor
