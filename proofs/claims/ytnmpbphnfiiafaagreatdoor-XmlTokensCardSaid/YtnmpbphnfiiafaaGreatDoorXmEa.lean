/-
  The reader of files: the begin of an element, whole.
-/
import Derived.Test.YtnmpbphnfiiafaaGreatDoorXmE
namespace Go.Proofs.YtnmpbphnfiiafaaGreatDoor
open Go.RowKit Go.PlainAid

section
variable {lo rb : Nat} {s : ByteArray} {at_ : Nat} {ov pv bp tv : Value} {fr : Int} {out : List Tk} {pile : List ByteArray} {text : List UInt8} {w0 : World} {nm : ByteArray} {R : Xr (Bool × List At2)}
theorem bg_pass2 (rest : Code) (hrest : findLabel bgCode 0 = some rest) (a : Act) (w : World) (hR : RdS lo rb s at_ ov pv bp tv fr out pile text w0) (hz : s.size ≤ 4000000000) (hG : ∀ W, KeepX lo rb w0 W → Gx W) (hol : out.length ≤ 10000000) (hpl : pile.length ≤ 64)
    (hJ : BJ rb s at_ #[.string s, .int .i64 (at_ : Int), ov, pv, bp, tv, .int .i64 fr] w0 nm R a w) : rest.wp Tryz.prog (Exit.jump 0 (fun a' w' => BJ rb s at_ #[.string s, .int .i64 (at_ : Int), ov, pv, bp, tv, .int .i64 fr] w0 nm R a' w' ∧ BM rb s a' w' < BM rb s a w)
      (bodyPost Tryz.prog Tryz.f44 (fun e w' => BegEnd lo rb s at_ bp tv fr out pile text w0 (begR nm R) e w'))) a w := by
  obtain ⟨c, hc, h⟩ := bg_pass
  obtain rfl : rest = .seq .skip c := Option.some.inj (hrest.symm.trans hc)
  refine wp_seq (wp_skip ?_)
  exact h _ a w hR (KeepX.refl _ _ _) hz hG hol hpl hJ (fun a2 w2 h1 h2 => ⟨h1, h2⟩)
theorem bg_fall (c : Code) (hrest : findLabel bgCode 0 = some (.seq .skip c)) (a : Act) (w : World) (hR : RdS lo rb s at_ ov pv bp tv fr out pile text w0) (hz : s.size ≤ 4000000000) (hG : ∀ W, KeepX lo rb w0 W → Gx W) (hol : out.length ≤ 10000000) (hpl : pile.length ≤ 64)
    (hJ : BJ rb s at_ #[.string s, .int .i64 (at_ : Int), ov, pv, bp, tv, .int .i64 fr] w0 nm R a w) : c.wp Tryz.prog (Exit.jump 0 (BJ rb s at_ #[.string s, .int .i64 (at_ : Int), ov, pv, bp, tv, .int .i64 fr] w0 nm R)
      (bodyPost Tryz.prog Tryz.f44 (fun e w' => BegEnd lo rb s at_ bp tv fr out pile text w0 (begR nm R) e w'))) a w := by
  obtain ⟨c', hc, h⟩ := bg_pass
  obtain rfl : c = c' := by have := Option.some.inj (hrest.symm.trans hc); injection this
  exact h _ a w hR (KeepX.refl _ _ _) hz hG hol hpl hJ (fun a2 w2 h1 _ => h1)
theorem begX_bad {n a : Nat} {ee : Int} (h : nameX s (at_ + 1) = .bad ee a) : begX s at_ n = .bad ee a := by unfold begX; rw [h]
theorem begX_full {n q : Nat} (h : nameX s (at_ + 1) = .ok q nm) (hn : n = 64) : begX s at_ n = .bad 3 at_ := by unfold begX; rw [h]; simp only; rw [if_pos hn]
theorem begX_go {n q : Nat} (h : nameX s (at_ + 1) = .ok q nm) (hn : n ≠ 64) : begX s at_ n = begR nm (begF s (s.size + 1 - q) q []) := by
  unfold begX begR
  rw [h]
  simp only
  rw [if_neg hn]
  cases begF s (s.size + 1 - q) q [] <;> rfl
end
set_option maxRecDepth 100000 in
set_option maxHeartbeats 8000000 in
theorem begin_any {lo rb : Nat} {s : ByteArray} {at_ : Nat} {ov pv bp tv : Value} {fr : Int} {out : List Tk} {pile : List ByteArray} {text : List UInt8} {w : World} (h : RdS lo rb s at_ ov pv bp tv fr out pile text w) (ha : at_ < s.size) (hz : s.size ≤ 4000000000) (hG : ∀ W, KeepX lo rb w W → Gx W) (hol : out.length ≤ 10000000) (hpl : pile.length ≤ 64) :
    Calls Tryz.prog 44 #[.pointer (some ⟨rb, 0, none⟩)] w fun en w' => BegEnd lo rb s at_ bp tv fr out pile text w (begX s at_ pile.length) en w' := by
  have c1 := h.rdr.cell1
  have hlt := h.blk.lt'
  have f1 : IntKind.i64.wrap ((at_ : Int) + 1) = ((at_ + 1 : Nat) : Int) := by rw [IntWalk.i64_in _ (by omega)]; omega
  have hne : w.heap.size ≠ rb := by omega
  have hne' : rb ≠ w.heap.size := by omega
  have hsz : (w.setCell ⟨rb, 1, none⟩ (.int .i64 ((at_ + 1 : Nat) : Int))).heap.size = w.heap.size := by simp [World.setCell]
  have hM1 := ((h.rdr.moved (Below.refl _ _)).set (at_ + 1)).on ((Below.refl _ _).alloc (Nat.le_refl _) (.cells #[.int .i64 1, .string ⟨#[]⟩, .slice none 0 0, .string ⟨#[]⟩, .int .i64 (at_ : Int)] 45))
  have hT1 := Blk.new' (w.setCell ⟨rb, 1, none⟩ (.int .i64 ((at_ + 1 : Nat) : Int))) #[.int .i64 1, .string ⟨#[]⟩, .slice none 0 0, .string ⟨#[]⟩, .int .i64 (at_ : Int)] 45 w.heap.size hsz.symm
  have d0 := h.blk.free 1
  have hnm := rdName_any hM1.1 ha (by omega)
  have hlo := h.bld.lo
  obtain ⟨n, hn⟩ : ∃ n, pile.length = n := ⟨_, rfl⟩
  obtain ⟨pa, pn, pc, hpv⟩ := h.pile.form'
  have hpn : pn = n := by
    obtain ⟨_, _, e⟩ := h.pile.form
    rw [hpv] at e
    injection e with _ e _
    omega
  subst hpv hpn
  rw [hn]
  have HH := Lib.hid h; have HG := Lib.hid hG; have HM1 := Lib.hid hM1; have HT1 := Lib.hid hT1; have HLO := Lib.hid hlo; have HN := Lib.hid hn
  clear h hG hM1 hT1 hsz hlo hn
  cases hx : nameX s (at_ + 1) with
  | bad ee aa =>
    rw [begX_bad hx]
    go_enter Tryz.func44, Tryz.ntmps44
    refine wp_scope_jumps 0 (fun _ _ => False) (fun _ _ => 0) rfl ?_ (fun _ _ h => h.elim)
    go_wp2_with fail
    refine hnm.mono ?_
    intro e w2 hE
    unfold StepEnd at hE
    rw [hx] at hE
    obtain ⟨rfl, hK⟩ := hE
    go_wp2_with fail
    simp only [Exit.jump]
    exact ⟨rfl, rfl, (HM1.out.2.trans (hK.mono HM1.out.2.size)).mono HLO.out⟩
  | ok q nm =>
    have key : ∀ w2, Moved rb s (#[.string s, .int .i64 (at_ : Int), ov, .slice pa pn pc, bp, tv, .int .i64 fr].setIfInBounds 1 (.int .i64 ((at_ + 1 : Nat) : Int))) ((w.setCell ⟨rb, 1, none⟩ (.int .i64 ((at_ + 1 : Nat) : Int))).alloc (.cells #[.int .i64 1, .string ⟨#[]⟩, .slice none 0 0, .string ⟨#[]⟩, .int .i64 (at_ : Int)] 45)) q w2 →
        Blk w2 w.heap.size #[.int .i64 1, .string ⟨#[]⟩, .slice none 0 0, .string ⟨#[]⟩, .int .i64 (at_ : Int)] ∧ Moved rb s #[.string s, .int .i64 (at_ : Int), ov, .slice pa pn pc, bp, tv, .int .i64 fr] w q w2 := fun w2 hM => by
      refine ⟨?_, HM1.out.trans hM⟩
      obtain ⟨t, ht⟩ := HT1.out
      exact ⟨t, (hM.2.block _ (lt_some ht) hne).trans ht⟩
    obtain ⟨hq1, hq2⟩ := nameX_in hx ha
    by_cases h64 : pn = 64
    · rw [begX_full hx h64]
      have hI : ((pn : Int) == 64) = true := by simp; omega
      have hf := fun W => fail_any (.pointer (some ⟨rb, 0, none⟩)) 3 (at_ : Int) W
      go_enter Tryz.func44, Tryz.ntmps44
      refine wp_scope_jumps 0 (fun _ _ => False) (fun _ _ => 0) rfl ?_ (fun _ _ h => h.elim)
      go_wp2_with fail
      refine hnm.mono ?_
      intro e w2 hE
      unfold StepEnd at hE
      rw [hx] at hE
      obtain ⟨rfl, hM⟩ := hE
      obtain ⟨hT2, hM2⟩ := key w2 hM
      have t1 : w2.cell? ⟨w.heap.size, 1, none⟩ = some (.string ⟨#[]⟩) := hT2.cell 1
      have t4 : w2.cell? ⟨w.heap.size, 4, none⟩ = some (.int .i64 (at_ : Int)) := hT2.cell 4
      have t0 := hT2.free 1
      have c3 : w2.cell? ⟨rb, 3, none⟩ = some (.slice pa pn pc) := hM2.1.blk.cell 3
      have hM3 := HH.out.keep hM2
      have HM3 := Lib.hid hM3
      clear hM hM2 hT2 key hM3 hnm d0 c1 f1
      go_wp2_with fail
      refine (hf _).mono ?_
      rintro e w' ⟨rfl, rfl⟩
      go_wp2_with fail
      simp only [Exit.jump]
      exact ⟨rfl, rfl, HM3.out.trans ⟨rfl, rfl, rfl, by simp [World.setCell], fun g hg _ => Below.heap_setCell _ _ _ _ (by have := HLO.out; simp; omega)⟩⟩
    · rw [begX_go hx h64]
      have hI : ((pn : Int) == 64) = false := by simp; omega
      have hI2 : ¬ (pn : Int) = 64 := by omega
      go_enter Tryz.func44, Tryz.ntmps44
      refine wp_scope_jumps 0 (BJ rb s at_ #[.string s, .int .i64 (at_ : Int), ov, .slice pa pn pc, bp, tv, .int .i64 fr] w nm (begF s (s.size + 1 - q) q [])) (BM rb s) rfl ?_ ?_
      rotate_left
      · intro a' w' hJ
        exact bg_pass2 _ rfl a' w' HH.out hz HG.out hol (by rw [HN.out]; rw [HN.out] at hpl; exact hpl) hJ
      go_wp2_with fail
      refine hnm.mono ?_
      intro e w2 hE
      unfold StepEnd at hE
      rw [hx] at hE
      obtain ⟨rfl, hM⟩ := hE
      obtain ⟨hT2, hM2⟩ := key w2 hM
      have t1 : w2.cell? ⟨w.heap.size, 1, none⟩ = some (.string ⟨#[]⟩) := hT2.cell 1
      have t0 := hT2.free 1
      have c3 : w2.cell? ⟨rb, 3, none⟩ = some (.slice pa pn pc) := hM2.1.blk.cell 3
      have HM2 := Lib.hid hM2; have HT2 := Lib.hid hT2
      clear hM hM2 hT2 key hnm d0 c1 f1
      go_wp2_with fail
      refine wp_label ?_
      rename_i K1 hK1
      refine hK1 _ _ (bg_fall _ rfl _ _ HH.out hz HG.out hol (by rw [HN.out]; rw [HN.out] at hpl; exact hpl) ?_)
      have hM5 : Moved rb s #[.string s, .int .i64 (at_ : Int), ov, .slice pa pn pc, bp, tv, .int .i64 fr] w q (w2.setCell ⟨w.heap.size, 1, none⟩ (.string nm)) := by
        have h4 := HM2.out
        have hrb5 : (w2.setCell ⟨w.heap.size, 1, none⟩ (.string nm)).heap[rb]? = w2.heap[rb]? := Below.heap_setCell _ _ _ _ hne'
        exact ⟨⟨hrb5.trans h4.1.blk, h4.1.c0, h4.1.c1⟩, h4.2.trans ⟨rfl, rfl, rfl, by simp [World.setCell], fun g hg _ => Below.heap_setCell _ _ _ _ (by simp; omega)⟩⟩
      exact ⟨q, [], none, 0, 0, s.size + 1 - q, rfl, rfl, rfl, rfl, hM5, HT2.out.set 1 _, GRow.nil _ _ _, hq2, by omega, by simp, by have := HT2.out.lt; simpa [World.setCell] using this, rfl⟩
end Go.Proofs.YtnmpbphnfiiafaaGreatDoor
