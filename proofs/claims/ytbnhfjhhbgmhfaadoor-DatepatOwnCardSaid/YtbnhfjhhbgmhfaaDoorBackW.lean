/-
  The walk of DatepatBack.
-/
import Derived.Test.YtbnhfjhhbgmhfaaDoorPrintsW
import Derived.Test.YtbnhfjhhbgmhfaaDoorDpJe
import Derived.Deep.DeepCutAuto
namespace Go.Proofs.YtbnhfjhhbgmhfaaDoor
open Go.RowKit Go.PlainAid

/-- What the second half needs: the fields read from a text, printed, and read again. -/
theorem back_facts (s : ByteArray) : ((dpParse s).2.1 = 0 → mayB (dpParse s).1 = true ∧ (4096 < (printT (dpParse s).1).size → 1000 < s.size) ∧ (¬ 4096 < (printT (dpParse s).1).size → dpParse (printT (dpParse s).1) = ((dpParse s).1, 0, 0))) := by
  intro h
  have hm := parse_may h
  exact ⟨hm, parse_long hm, fun h4 => parse_print (fun x hx => by have := (dpParse_in s).2 x hx; exact ⟨this.1, this.2.1⟩) hm (by omega)⟩
theorem pR_err (s : ByteArray) : ∀ (f i : Nat) (l : List PF), s.size - i = f → (pR s i l).2.1 ≠ 0 → (pR s i l).1 = []
  | f, i, l, hf, h => by
    by_cases hlt : i < s.size
    · rw [pR_step hlt] at h ⊢
      have hrm := runTo_more hlt
      by_cases hL : bLetter (bt s i) = true
      · rw [if_pos hL] at h ⊢
        split at h
        · rename_i hc
          rw [if_pos hc]
        · rename_i hc
          rw [if_neg hc]
          exact pR_err s _ _ _ rfl h
      · rw [if_neg hL] at h ⊢
        by_cases h39 : bt s i ≠ 39
        · rw [if_pos h39] at h ⊢
          exact pR_err s _ _ _ rfl h
        · rw [if_neg h39] at h ⊢
          by_cases h2 : i + 1 < s.size ∧ bt s (i + 1) = 39
          · rw [if_pos h2] at h ⊢
            exact pR_err s _ _ _ rfl h
          · rw [if_neg h2] at h ⊢
            cases hq : qR s (i + 1) ⟨#[]⟩ with
            | none => rfl
            | some x =>
              obtain ⟨t, j⟩ := x
              rw [hq] at h
              have hj := qR_some _ _ _ _ _ rfl hq
              exact pR_err s _ _ _ rfl h
    · rw [pR_end hlt] at h
      exact absurd rfl h
  termination_by f => f
  decreasing_by all_goals omega
theorem dpParse_err {s : ByteArray} (h : (dpParse s).2.1 ≠ 0) : (dpParse s).1 = [] := by
  unfold dpParse at h ⊢
  by_cases h4 : 4096 < s.size
  · rw [if_pos h4]
  · rw [if_neg h4] at h ⊢
    by_cases hb : 0 ≤ brk s 0
    · rw [if_pos hb]
    · rw [if_neg hb] at h ⊢
      exact pR_err s _ 0 [] rfl h

/-- Stores into a block below the fields' own leave them as they are. -/
theorem PFAt.set {w : World} {v : Value} {l : List PF} {b o : Nat} {u : Value} (h : PFAt w v l) (hne : ∀ a n c, v = .slice (some a) n c → a.block ≠ b) : PFAt (w.setCell ⟨b, o, none⟩ u) v l := by
  obtain ⟨a, cap, rfl, hl, hc⟩ := h
  refine ⟨a, cap, rfl, hl, fun j hj => ?_⟩
  obtain ⟨g, off, rfl, hg, h0, h1, h2⟩ := hc j hj
  have hn : g ≠ b := hne _ _ _ rfl
  have q : ∀ o', (w.setCell ⟨b, o, none⟩ u).cell? ⟨g, o', none⟩ = w.cell? ⟨g, o', none⟩ := fun o' => by
    simp only [World.cell?, World.setCell]
    rw [Array.getElem?_modify, if_neg (fun e => hn e.symm)]
  exact ⟨g, off, rfl, by simpa [World.setCell] using hg, by rw [q]; exact h0, by rw [q]; exact h1, by rw [q]; exact h2⟩
theorem PFRow.not_at {base : Nat} {w : World} {v : Value} {l : List PF} {b : Nat} (h : PFRow base w v l) (hb : b < base) : ∀ a n c, v = .slice (some a) n c → a.block ≠ b := by
  intro a n c e
  have := h.own a.block (by rw [e]; rfl)
  omega
theorem PFAt.not_at {w : World} {v : Value} {l : List PF} {b : Nat} (h : PFAt w v l) (hb : ¬ b < w.heap.size) : ∀ a n c, 0 < l.length → v = .slice (some a) n c → a.block ≠ b := by
  intro a n c hl e
  obtain ⟨a', cap, rfl, _, hc⟩ := h
  obtain ⟨g, off, rfl, hg, _⟩ := hc 0 hl
  injection e with e
  injection e with e
  subst e
  show g ≠ b
  omega

set_option maxRecDepth 100000 in
set_option maxHeartbeats 4000000 in
theorem datepatBack_walk (s : ByteArray) (v : Value) (l : List PF) (w : World) (hv : PFArg w v l) (hsz : PFsz l) (hs : s.size ≤ 1048576) (hG : Gl w) :
    Calls Tryd.prog 5 #[.string s, v] w fun e w' => e = .returned (.bool true) ∧ Below w.heap.size w w' := by
  have HV := Lib.hid hv
  obtain ⟨_, va, vcap, rfl, _⟩ := hv
  have hlm := hsz.1
  have HPR := Lib.hid (fun u W h g => dprint_any u l W h hsz g)
  have HS := Lib.hid hsz
  have HX := Lib.hid hs
  clear hs
  go_enter Tryd.func5, Tryd.ntmps5
  go_wp2_with fail
  refine (wakes_any _ hG).mono ?_
  rintro e w0 ⟨rfl, hB0⟩
  have hv0 := HV.out.later hB0
  go_wp2_with (at_builtin; go_must (refine wpList_copy_pf rfl _ _ rfl _ rfl rfl _ l rfl hv0 (by omega) hB0 hB0.size ?_); intro v' w1 hr1 hB1)
  have g1 : GB w w1 := ⟨hG.later hB1, hB1⟩
  refine (HPR.out _ _ (hr1.at (by omega)) g1.1).mono ?_
  rintro e w2 ⟨rfl, hB2⟩
  have g2 := g1.on hB2
  clear hv0 hB0 hB1 hB2 hr1 g1
  go_upto_if 24 with fail
  go_cut [5, 6, 7, 8] (fun _ _ _ _ wx => GB w wx)
  case first =>
    by_cases hok : mayB l = true ∧ ¬ 4096 < (printT l).size
    · have hp : dpPrint l = (printT l, 0) := by unfold dpPrint; rw [if_pos hok.1, if_neg hok.2]
      have hq : dpParse (printT l) = (l, 0, 0) := parse_print (fun x hx => by have := HS.out.2 x hx; exact ⟨this.1, this.2.1⟩) hok.1 (by omega)
      have hpa := fun W => dparse_any (printT l) W (by omega)
      rw [hq] at hpa
      rw [hp]
      generalize printT l = P at *
      clear hp hq hok
      go_wp2_with fail
      refine (hpa _).mono ?_
      rintro e w3 ⟨⟨u, rfl, hrow⟩, hB3⟩
      have hat := hrow.at (by show l.length ≤ _; omega)
      obtain ⟨ua, uc, rfl⟩ := hrow.form
      have g3 := g2.on hB3
      have sp := Blk.new w3 #[.int .i64 0, .int .i64 0] 26
      have g4 := g3.alloc (.cells #[.int .i64 0, .int .i64 0] 26)
      have hat4 := hat.later ((Below.refl w3.heap.size w3).alloc (Nat.le_refl _) (.cells #[.int .i64 0, .int .i64 0] 26))
      have hv4 := HV.out.later g4.2
      have c0 := sp.cell 0
      have c1 := sp.cell 1
      simp at c0 c1
      clear hpa hrow hat g2 g3 hB3
      go_wp2_with fail
      refine (same_yes _ _ l _ hat4 hv4.1).mono ?_
      rintro e w6 ⟨rfl, hB6⟩
      have g6 := g4.on hB6
      go_wp2_with fail
      go_meet
      case rel => exact g6
    · have hp : ∃ E : Int, (E == 0) = false ∧ dpPrint l = (⟨#[]⟩, E) := by
        unfold dpPrint
        by_cases hm : mayB l = true
        · rw [if_pos hm, if_pos (by by_cases h : 4096 < (printT l).size; exact h; exact absurd ⟨hm, h⟩ hok)]
          exact ⟨3, by decide, rfl⟩
        · rw [if_neg hm]
          exact ⟨2, by decide, rfl⟩
      obtain ⟨E, hE, hp⟩ := hp
      rw [hp]
      clear hp hok
      go_wp2_with fail
      go_meet
      case rel => exact g2
  case rest =>
    clear g2 HPR HV HS
    have g2 := hcut
    clear hcut
    have hp := fun W => dparse_any s W (by have := HX.out; omega)
    have hsz2 : PFsz (dpParse s).1 := dpParse_sz s
    have hlen := dpParse_len s
    have hf := back_facts s
    have herr := dpParse_err (s := s)
    generalize dpParse s = r at *
    obtain ⟨L, E, A⟩ := r
    simp only at hf herr hsz2 hlen
    by_cases hE : E = 0
    · subst hE
      obtain ⟨hm, hlong, hback⟩ := hf rfl
      clear hf herr
      by_cases h4 : 4096 < (printT L).size
      · have hpL : dpPrint L = (⟨#[]⟩, 3) := by unfold dpPrint; rw [if_pos hm, if_pos h4]
        have HPL := Lib.hid (fun u W h g => dprint_any u L W h hsz2 g)
        rw [hpL] at HPL
        have h1000 : (1000 : Int) < s.size := by have := hlong h4; omega
        clear hpL hm hlong hback h4
        go_wp2_with fail
        refine (hp _).mono ?_
        rintro e w3 ⟨⟨u, rfl, hrow⟩, hB3⟩
        have hat := hrow.at hlen
        obtain ⟨ua, uc, rfl⟩ := hrow.form
        have g3 := g2.on hB3
        have sp := Blk.new w3 #[.int .i64 0, .int .i64 A] 26
        have g4 := g3.alloc (.cells #[.int .i64 0, .int .i64 A] 26)
        have hat4 := hat.later ((Below.refl w3.heap.size w3).alloc (Nat.le_refl _) (.cells #[.int .i64 0, .int .i64 A] 26))
        have c0 := sp.cell 0
        simp at c0
        clear hp hrow hat g2 g3 hB3
        go_wp2_with fail
        refine (HPL.out _ _ hat4 g4.1).mono ?_
        rintro e w5 ⟨rfl, hB5⟩
        have g5 := g4.on hB5
        go_wp2_with fail
        go_ret
        exact ⟨by simp, g5.2⟩
      · have hpL : dpPrint L = (printT L, 0) := by unfold dpPrint; rw [if_pos hm, if_neg h4]
        have HPL := Lib.hid (fun u W h g => dprint_any u L W h hsz2 g)
        rw [hpL] at HPL
        have hpa := fun W => dparse_any (printT L) W (by omega)
        rw [hback h4] at hpa
        generalize printT L = P at *
        clear hpL hm hlong hback h4
        go_wp2_with fail
        refine (hp _).mono ?_
        rintro e w3 ⟨⟨u, rfl, hrow⟩, hB3⟩
        have hat := hrow.at hlen
        obtain ⟨ua, uc, rfl⟩ := hrow.form
        have g3 := g2.on hB3
        have sp := Blk.new w3 #[.int .i64 0, .int .i64 A] 26
        have g4 := g3.alloc (.cells #[.int .i64 0, .int .i64 A] 26)
        have hat4 := hat.later ((Below.refl w3.heap.size w3).alloc (Nat.le_refl _) (.cells #[.int .i64 0, .int .i64 A] 26))
        have c0 := sp.cell 0
        simp at c0
        have g3z := g3.2.size
        have hnm : ∀ a n c, (.slice ua L.length uc : Value) = .slice (some a) n c → a.block ≠ w3.heap.size := by
          intro a n c e
          have := (World.ownsRow.lt hrow a.block (by rw [e]; rfl)).2
          omega
        have HNM := Lib.hid hnm
        clear hnm
        clear hp hrow hat g2 g3 hB3
        go_wp2_with fail
        refine (HPL.out _ _ hat4 g4.1).mono ?_
        rintro e w5 ⟨rfl, hB5⟩
        have g5 := g4.on hB5
        have sp5 := sp.on hB5
        have hat5 := hat4.later hB5
        have hz3 : w.heap.size ≤ w3.heap.size := g3z
        clear c0 sp hat4 g4 hB5
        go_wp2_with fail
        refine (hpa _).mono ?_
        rintro e w6 ⟨⟨x, rfl, hrow⟩, hB6⟩
        obtain ⟨xa, xc, rfl⟩ := hrow.form
        have g6 := g5.on hB6
        have sp6 := sp5.on hB6
        have hat6 := hat5.later hB6
        have c0 := sp6.cell 0
        have c1 := sp6.cell 1
        have f0 := sp6.free 0
        have f1 := sp6.free 1
        have hlt := sp5.lt
        have hlt3 := sp6.lt
        simp at c0 c1
        have hzw : w.heap.size ≤ w3.heap.size := hz3
        have hb2 : w3.heap.size < w5.heap.size := sp5.lt
        have hnx := hrow.not_at hb2
        have hatx := hrow.at hlen
        clear hpa hrow hat5 g5 hB6 sp5
        have sp7 := (sp6.set 0 (.int .i64 0)).set 1 (.int .i64 0)
        have hB7 := (g6.2.setCell (p := ⟨w3.heap.size, 0, none⟩) hz3 (.int .i64 0)).setCell (p := ⟨w3.heap.size, 1, none⟩) hz3 (.int .i64 0)
        have hat7 := (hat6.set (o := 0) (u := .int .i64 0) HNM.out).set (o := 1) (u := .int .i64 0) HNM.out
        have hatx7 := (hatx.set (o := 0) (u := .int .i64 0) hnx).set (o := 1) (u := .int .i64 0) hnx
        have z0 := sp7.cell 0
        have z1 := sp7.cell 1
        simp at z0 z1
        clear hnx hat6 hatx sp6 sp7
        go_wp2_with fail
        refine (same_yes _ _ L _ hatx7 hat7).mono ?_
        rintro e w8 ⟨rfl, hB8⟩
        go_wp2_with fail
        go_ret
        exact ⟨rfl, hB7.trans (hB8.mono hB7.size)⟩
    · have hL := herr hE
      subst hL
      have hEb : (E == 0) = false := by simpa using hE
      clear hf herr
      go_wp2_with fail
      refine (hp _).mono ?_
      rintro e w3 ⟨⟨u, rfl, hrow⟩, hB3⟩
      obtain ⟨ua, uc, rfl⟩ := hrow.form
      have g3 := g2.on hB3
      have sp := Blk.new w3 #[.int .i64 E, .int .i64 A] 26
      have g4 := g3.alloc (.cells #[.int .i64 E, .int .i64 A] 26)
      have c0 := sp.cell 0
      simp at c0
      clear hp hrow g2 g3 hB3
      go_wp2_with fail
      go_ret
      exact ⟨by simp, g4.2⟩
end Go.Proofs.YtbnhfjhhbgmhfaaDoor
