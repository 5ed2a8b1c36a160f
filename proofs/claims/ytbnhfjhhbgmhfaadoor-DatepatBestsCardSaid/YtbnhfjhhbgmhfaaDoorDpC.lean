/-
  Patterns of dates: Best.
-/
import Derived.Test.YtbnhfjhhbgmhfaaDoorDpAs
import Derived.Test.YtbnhfjhhbgmhfaaDoorSkelsW
import Derived.Laws.AppendOwnNone
namespace Go.Proofs.YtbnhfjhhbgmhfaaDoor
open Go.RowKit Go.PlainAid

/-- A slice that reads as texts. -/
def StrAt (w : World) (v : Value) (L : List ByteArray) : Prop :=
  ∃ a cap, v = .slice a L.length cap ∧ (a = none → cap = 0 ∧ L.length = 0) ∧ L.length ≤ 1000000000000000 ∧ ∀ j (hj : j < L.length), ∃ g off, a = some ⟨g, off, none⟩ ∧ g < w.heap.size ∧ w.cell? ⟨g, off + j, none⟩ = some (.string L[j])
theorem StrAt.later {w w' : World} {v : Value} {L : List ByteArray} (h : StrAt w v L) (hB : Below w.heap.size w w') : StrAt w' v L := by
  obtain ⟨a, cap, rfl, hn, hl, hc⟩ := h
  refine ⟨a, cap, rfl, hn, hl, fun j hj => ?_⟩
  obtain ⟨g, off, rfl, hg, h0⟩ := hc j hj
  exact ⟨g, off, rfl, Nat.lt_of_lt_of_le hg hB.size, (hB.cell (p := ⟨g, _, none⟩) hg).trans h0⟩
theorem infoStr : (Tryd.prog.info? 9).map (fun i => (i.zero, i.size, i.bytes)) = some (some (.string ⟨#[]⟩), 1, 16) := by kernel_rfl
theorem strAt_own {base : Nat} {w : World} {v : Value} {L : List ByteArray} (h : w.ownsRow base 9 1 v L.length (L.map Value.string)) (hl : L.length ≤ 1000000000000000) : StrAt w v L := by
  obtain ⟨h1, h2⟩ := id h
  rcases h2 with ⟨hv, hn⟩ | ⟨g, cap, cur, hv, hg, hh, hc, hm, hs, ht⟩
  · exact ⟨none, 0, by rw [hv, hn], fun _ => ⟨rfl, hn⟩, hl, fun j hj => by omega⟩
  · refine ⟨_, cap, hv, (fun h => by cases h), hl, fun j hj => ⟨g, 0, rfl, (Array.getElem?_eq_some_iff.1 hh).1, ?_⟩⟩
    have h' : w.ownsRow base 9 1 (.slice (some ⟨g, 0, none⟩) L.length cap) L.length (L.map Value.string) := by rw [← hv]; exact h
    rw [Nat.zero_add, World.ownsRow.cellAt h' j (by simpa using hj)]
    simp [hj]
set_option maxRecDepth 100000 in
/-- append([]string{}, l...): a copy of its own. -/
theorem wpList_copy_str {ops : Array Oper} {rest : List Oper} {o : Oper} {a : Act} {Q : Exit → Act → World → Prop} {W0 w : World} {B : Nat} (hgd : o.guard = none) (s y : Operand)
    (ho : o.op = .call { callee := .builtin .append, args := #[s, y], argTypes := #[52, 52] }) (q : Nat) (hq : q = w.heap.size) (hs : a.eval s = .slice (some ⟨q, 0, none⟩) 0 0)
    (v : Value) (L : List ByteArray) (hx : a.eval y = v) (hv : StrAt w v L) (hlen : L.length ≤ 1000000) (hB : Below B W0 w) (hb : B ≤ w.heap.size)
    (h : ∀ v' w', StrAt w' v' L → Below B W0 w' → wpList Tryd.prog ops Q rest (a.put o.dst v') w') : wpList Tryd.prog ops Q (o :: rest) a (w.alloc (.cells #[] 9)) := by
  subst hq
  obtain ⟨i0, hi, hz0, hz1, hz2⟩ := info_parts infoStr
  have hown : (w.alloc (.cells #[] 9)).ownsRow w.heap.size 9 1 (.slice (some ⟨w.heap.size, 0, none⟩) 0 0) 0 [] :=
    ⟨rfl, .inr ⟨w.heap.size, 0, #[], rfl, Nat.le_refl _, (by show (w.heap.push _)[w.heap.size]? = _; simp), Nat.le_refl _, Nat.zero_le _, rfl, rfl⟩⟩
  have hBa := hB.alloc hb (.cells #[] 9)
  obtain ⟨ad, cap, rfl, hn, _, hc⟩ := hv
  cases ad with
  | none =>
    obtain ⟨rfl, hl0⟩ := hn rfl
    rw [hl0] at hx
    refine wpList_append_own_none hgd s y 52 ho w.heap.size 9 i0 1 Tryd.underlying52 hi _ 0 [] hs hown hx (h _ _ ⟨_, 0, by rw [hl0], (fun h => by cases h), by omega, fun j hj => by omega⟩ hBa)
  | some ad =>
    refine wpList_append_own _ hgd s y 52 ho w.heap.size 9 i0 (.string ⟨#[]⟩) 1 16 Tryd.underlying52 hi hz0 hz1 hz2 rfl (by decide) _ 0 [] hs hown ad L.length cap (L.map Value.string) hx (by simp) (fun j u hu => ?_) (by simp [Value.oneCell']) (by unfold maxLen; omega) (by omega) (by simp) ?_
    · obtain ⟨hj, hju⟩ := List.getElem?_eq_some_iff.1 hu
      have hj' : j < L.length := by simpa using hj
      obtain ⟨g, off, he, hg, hcell⟩ := hc j hj'
      injection he with he
      subst he
      rw [Lib.add_plain, cell_later hcell ((Below.refl w.heap.size w).alloc (Nat.le_refl _) _)]
      rw [← hju]
      simp
    intro v' w' hown' hgrow _
    rw [Nat.zero_add, List.nil_append] at hown'
    refine h v' w' (strAt_own hown' (by omega)) (hBa.grown hgrow (by simp; omega) (fun k hk => ?_))
    have : k = w.heap.size := by injection hk with e; exact e.symm
    omega
/-- The nearest of the first texts, and how far it is. -/
def stepB (x : List PF) (s : ByteArray) (i : Nat) (p : Int × Int) : Int × Int :=
  if (skel s).2.1 = 0 ∧ (p.1 < 0 ∨ apartL x (skel s).1 < p.2) then ((i : Int), apartL x (skel s).1) else p
def bestN (x : List PF) (L : List ByteArray) : Nat → Int × Int
  | 0 => (-1, 0)
  | k + 1 => stepB x (L.getD k ⟨#[]⟩) k (bestN x L k)
theorem bestN_next (x : List PF) (L : List ByteArray) (k : Nat) (h : k < L.length) : bestN x L (k + 1) = stepB x L[k] k (bestN x L k) := by
  show stepB x (L.getD k ⟨#[]⟩) k _ = _
  rw [List.getD_eq_getElem?_getD, List.getElem?_eq_getElem h]
  rfl
theorem bestN_bd (x : List PF) (L : List ByteArray) : ∀ k : Nat, -1 ≤ (bestN x L k).1 ∧ (bestN x L k).1 < (k : Int)
  | 0 => ⟨Int.le_refl _, by show (-1 : Int) < 0; omega⟩
  | k + 1 => by
    have ih := bestN_bd x L k
    have e : bestN x L (k + 1) = stepB x (L.getD k ⟨#[]⟩) k (bestN x L k) := rfl
    rw [e]
    unfold stepB
    push_cast
    split
    · exact ⟨by simp only; omega, by simp only; omega⟩
    · exact ⟨ih.1, by have := ih.2; omega⟩
/-- What Best hands back. -/
def dpBest (a : ByteArray) (L : List ByteArray) : Int × Int × Int :=
  if (skel a).2.1 = 0 then (if (bestN (skel a).1 L L.length).1 < 0 then (0, 0, 4) else ((bestN (skel a).1 L L.length).1, (bestN (skel a).1 L L.length).2, 0)) else (0, 0, 272)

set_option maxRecDepth 100000 in
set_option maxHeartbeats 1000000 in
theorem look_yes (b9 b10 : Nat) (i far at_ least : Int) (w : World) (h9 : Blk w b9 #[.int .i64 at_]) (h10 : Blk w b10 #[.int .i64 least]) (hne : b9 ≠ b10) (h : at_ < 0 ∨ far < least) :
    Calls Tryd.prog 57 #[.int .i64 i, .int .i64 far, .pointer (some ⟨b9, 0, none⟩), .pointer (some ⟨b10, 0, none⟩)] w fun e w' => e = .returned (.tuple #[]) ∧ w' = (w.setCell ⟨b9, 0, none⟩ (.int .i64 i)).setCell ⟨b10, 0, none⟩ (.int .i64 far) := by
  have c9 := h9.cell 0
  have c10 := h10.cell 0
  simp at c9 c10
  have f9 := h9.free 0
  have f10 := h10.free 0
  by_cases h0 : at_ < 0
  · go_enter Tryd.func57, Tryd.ntmps57
    go_wp2_with fail
    go_end0
    exact ⟨rfl, rfl⟩
  · have hfl : far < least := by omega
    go_enter Tryd.func57, Tryd.ntmps57
    go_wp2_with fail
    go_end0
    exact ⟨rfl, rfl⟩
set_option maxRecDepth 100000 in
set_option maxHeartbeats 1000000 in
theorem look_no (b9 b10 : Nat) (i far at_ least : Int) (w : World) (h9 : Blk w b9 #[.int .i64 at_]) (h10 : Blk w b10 #[.int .i64 least]) (h : ¬ (at_ < 0 ∨ far < least)) :
    Calls Tryd.prog 57 #[.int .i64 i, .int .i64 far, .pointer (some ⟨b9, 0, none⟩), .pointer (some ⟨b10, 0, none⟩)] w fun e w' => e = .returned (.tuple #[]) ∧ w' = w := by
  have c9 := h9.cell 0
  have c10 := h10.cell 0
  simp at c9 c10
  have h0 : ¬ at_ < 0 := by omega
  have hfl : ¬ far < least := by omega
  go_enter Tryd.func57, Tryd.ntmps57
  go_wp2_with fail
  go_end0
  exact ⟨rfl, rfl⟩

set_option maxRecDepth 100000 in
set_option maxHeartbeats 4000000 in
theorem best_any (a : ByteArray) (v : Value) (L : List ByteArray) (w : World) (hsa : a.size ≤ 1000000000000000) (hv : StrAt w v L) (hL : ∀ s ∈ L, s.size ≤ 1000000000000000) :
    Calls Tryd.prog 28 #[.string a, v] w fun e w' => e = .returned (.tuple #[.int .i64 (dpBest a L).1, .int .i64 (dpBest a L).2.1, .int .i64 (dpBest a L).2.2]) ∧ Below w.heap.size w w' := by
  have hka := skel_sk a
  have hqa := fun W => skel_any a W hsa
  have hr : dpBest a L = if (skel a).2.1 = 0 then (if (bestN (skel a).1 L L.length).1 < 0 then (0, 0, 4) else ((bestN (skel a).1 L L.length).1, (bestN (skel a).1 L L.length).2, 0)) else (0, 0, 272) := rfl
  generalize dpBest a L = R at *
  generalize skel a = ra at *
  obtain ⟨LA, EA, AA⟩ := ra
  simp only at hr hka
  have HR := Lib.hid hr
  have HKA := Lib.hid hka
  have hla := hka.1
  have HL := Lib.hid hL
  obtain ⟨va, vcap, rfl, _, hlen, hc⟩ := hv
  have HC := Lib.hid hc
  clear hr hka hL hc
  by_cases ha : EA = 0
  · have haI : (EA != 0) = false := by simp [ha]
    have hr2 := HR.out
    rw [if_pos ha] at hr2
    have HR2 := Lib.hid hr2
    clear hr2 ha HR
    go_enter Tryd.func28, Tryd.ntmps28
    go_wp2_with fail
    refine (hqa _).mono ?_
    rintro e w1 ⟨⟨u, rfl, hrow⟩, hB1⟩
    have hat := hrow.at (by show LA.length ≤ _; omega)
    obtain ⟨xa, xc, rfl⟩ := hrow.form
    have hC1 := hB1.alloc hB1.size (.cells #[.int .i64 EA, .int .i64 AA] 26)
    have hat1 := hat.later ((Below.refl w1.heap.size w1).alloc (Nat.le_refl _) (.cells #[.int .i64 EA, .int .i64 AA] 26))
    clear hrow hat hqa hB1
    go_upto_region 4 with fail
    generalize w1.alloc (.cells #[.int .i64 EA, .int .i64 AA] 26) = w2 at *
    have k9 := (Blk.new w2 #[.int .i64 (-1)] 3).alloc (.cells #[.int .i64 0] 3)
    have k10 := Blk.new' (w2.alloc (.cells #[.int .i64 (-1)] 3)) #[.int .i64 0] 3 (w2.heap.size + 1) (by simp)
    have hBw := ((Below.refl w2.heap.size w2).alloc (Nat.le_refl _) (.cells #[.int .i64 (-1)] 3)).alloc (by simp) (.cells #[.int .i64 0] 3)
    have HK9 := Lib.hid k9; have HK10 := Lib.hid k10; have HBW := Lib.hid hBw
    have hz2 := hC1.size
    clear k9 k10 hBw
    go_wp2_with fail
    go_loopg [27] L.length (fun g s27 wr => ∃ i : Nat, s27 = .int .i64 (i : Int) ∧ i + g = L.length ∧ Blk wr w2.heap.size #[.int .i64 (bestN LA L i).1] ∧ Blk wr (w2.heap.size + 1) #[.int .i64 (bestN LA L i).2] ∧ Below w2.heap.size w2 wr)
    case atStart => exact ⟨0, rfl, by omega, HK9.out, HK10.out, HBW.out⟩
    case round =>
      obtain ⟨i, rfl, hg, h9, h10, hB⟩ := hrel
      have hzB := hB.size
      by_cases hi : i < L.length
      · have hnx := bestN_next LA L i hi
        have HNX := Lib.hid hnx
        obtain ⟨g, off, rfl, hgw, h0⟩ := HC.out i hi
        have hsz := HL.out L[i] (List.getElem_mem hi)
        generalize L[i] = s at *
        have hCr := hC1.trans (hB.mono hz2)
        have d0 := (hCr.cell (p := ⟨g, _, none⟩) hgw).trans h0
        have hsk := skel_sk s
        have hqs := fun W => skel_any s W hsz
        have hap := fun vb W h1 h2 => apart_any (.slice xa LA.length xc) vb LA (skel s).1 W h1 h2 HKA.out hsk
        have HAP := Lib.hid hap
        have hst : ∀ p, stepB LA s i p = if (skel s).2.1 = 0 ∧ (p.1 < 0 ∨ apartL LA (skel s).1 < p.2) then ((i : Int), apartL LA (skel s).1) else p := fun p => rfl
        rw [hst] at HNX
        generalize skel s = rs at *
        obtain ⟨LS, ES, AS⟩ := rs
        have hls := hsk.1
        simp only at hls HNX
        have hiI : (i : Int) < L.length := by omega
        clear hnx h0 hap hsk hst hCr
        go_wp2_with fail
        refine (hqs _).mono ?_
        rintro e w3 ⟨⟨u, rfl, hrow⟩, hB3⟩
        have hats := hrow.at (by show LS.length ≤ _; omega)
        obtain ⟨sa, sc, rfl⟩ := hrow.form
        have hB4 := (hB.trans (hB3.mono hzB)).alloc (Nat.le_trans hzB hB3.size) (.cells #[.int .i64 ES, .int .i64 AS] 26)
        have hA := (Below.refl w3.heap.size w3).alloc (Nat.le_refl _) (.cells #[.int .i64 ES, .int .i64 AS] 26)
        have hats4 := hats.later hA
        have hat4 := hat1.later hB4
        have g9 := (h9.on hB3).on hA
        have g10 := (h10.on hB3).on hA
        have hlt9 := g9.lt
        clear hrow hats hqs hA
        by_cases hes : ES = 0
        · have heI : (ES == 0) = true := by simp [hes]
          have hnew : bestN LA L (i + 1) = if ((bestN LA L i).1 < 0 ∨ apartL LA LS < (bestN LA L i).2) then ((i : Int), apartL LA LS) else bestN LA L i := by
            have h := HNX.out
            rw [h]
            by_cases hc : (bestN LA L i).1 < 0 ∨ apartL LA LS < (bestN LA L i).2
            · rw [if_pos ⟨hes, hc⟩, if_pos hc]
            · rw [if_neg (fun h => hc h.2), if_neg hc]
          have HNEW := Lib.hid hnew
          clear hnew hes
          generalize bestN LA L i = p at *
          obtain ⟨pa, pb⟩ := p
          simp only at HNEW g9 g10
          go_wp2_with fail
          refine (HAP.out _ _ hat4 hats4).mono ?_
          rintro e w5 ⟨rfl, hB5⟩
          have q9 := g9.on hB5
          have q10 := g10.on hB5
          have hB6 := hB4.trans (hB5.mono hB4.size)
          clear h9 h10 g9 g10
          by_cases hc : pa < 0 ∨ apartL LA LS < pb
          · have hnew : bestN LA L (i + 1) = ((i : Int), apartL LA LS) := by rw [HNEW.out, if_pos hc]
            have HN := Lib.hid hnew
            clear hnew
            go_wp2_with fail
            refine (look_yes w2.heap.size (w2.heap.size + 1) i (apartL LA LS) pa pb w5 q9 q10 (by omega) hc).mono ?_
            rintro e w6 ⟨rfl, rfl⟩
            have r9 : Blk ((w5.setCell ⟨w2.heap.size, 0, none⟩ (.int .i64 i)).setCell ⟨w2.heap.size + 1, 0, none⟩ (.int .i64 (apartL LA LS))) w2.heap.size #[.int .i64 (bestN LA L (i + 1)).1] := by rw [HN.out]; exact (q9.set 0 (.int .i64 i)).other (w2.heap.size + 1) 0 _ (by omega)
            have r10 : Blk ((w5.setCell ⟨w2.heap.size, 0, none⟩ (.int .i64 i)).setCell ⟨w2.heap.size + 1, 0, none⟩ (.int .i64 (apartL LA LS))) (w2.heap.size + 1) #[.int .i64 (bestN LA L (i + 1)).2] := by rw [HN.out]; exact (q10.other w2.heap.size 0 _ (by omega)).set 0 (.int .i64 (apartL LA LS))
            have hB7 := (hB6.setCell (p := ⟨w2.heap.size, 0, none⟩) (Nat.le_refl _) (.int .i64 i)).setCell (p := ⟨w2.heap.size + 1, 0, none⟩) (Nat.le_succ _) (.int .i64 (apartL LA LS))
            have R9 := Lib.hid r9; have R10 := Lib.hid r10; have HB7 := Lib.hid hB7
            clear r9 r10 hB7 hc
            go_wp2_with fail
            go_roundg (gk - 1)
            case rel => exact ⟨i + 1, by push_cast; rfl, by omega, R9.out, R10.out, HB7.out⟩
            case measure => omega
          · have hnew : bestN LA L (i + 1) = (pa, pb) := by rw [HNEW.out, if_neg hc]
            have HN := Lib.hid hnew
            clear hnew
            go_wp2_with fail
            refine (look_no w2.heap.size (w2.heap.size + 1) i (apartL LA LS) pa pb w5 q9 q10 hc).mono ?_
            rintro e w6 ⟨rfl, rfl⟩
            clear hc
            go_wp2_with fail
            go_roundg (gk - 1)
            case rel => exact ⟨i + 1, by push_cast; rfl, by omega, by rw [HN.out]; exact q9, by rw [HN.out]; exact q10, hB6⟩
            case measure => omega
        · have heI : (ES == 0) = false := by simpa using hes
          have hnew : bestN LA L (i + 1) = bestN LA L i := by rw [HNX.out, if_neg (fun h => hes h.1)]
          have HN := Lib.hid hnew
          clear hnew hes
          go_wp2_with fail
          go_roundg (gk - 1)
          case rel => exact ⟨i + 1, by push_cast; rfl, by omega, by rw [HN.out]; exact g9, by rw [HN.out]; exact g10, hB4⟩
          case measure => omega
      · have hie : i = L.length := by omega
        subst hie
        have hiI : ¬ (L.length : Int) < L.length := by omega
        have hCr := hC1.trans (hB.mono hz2)
        have k9 := h9.cell 0
        have k10 := h10.cell 0
        simp at k9 k10
        generalize bestN LA L L.length = p at *
        obtain ⟨pa, pb⟩ := p
        simp only at k9 k10 HR2
        by_cases hneg : pa < 0
        · have hr3 := HR2.out
          rw [if_pos hneg] at hr3
          have HR3 := Lib.hid hr3
          clear hr3
          go_wp2_with fail
          go_ret3
          exact ⟨by rw [HR3.out]; rfl, hCr⟩
        · have hr3 := HR2.out
          rw [if_neg hneg] at hr3
          have HR3 := Lib.hid hr3
          clear hr3
          go_wp2_with fail
          go_quiet (fail)
          have hBn := bdrN hCr nq
          go_wp2_with fail
          go_ret3
          exact ⟨by rw [HR3.out]; rfl, hBn⟩
  · have haI : (EA != 0) = true := by simpa using ha
    have hr2 := HR.out
    rw [if_neg ha] at hr2
    have HR2 := Lib.hid hr2
    clear hr2 ha HR
    go_enter Tryd.func28, Tryd.ntmps28
    go_wp2_with fail
    refine (hqa _).mono ?_
    rintro e w1 ⟨⟨u, rfl, hrow⟩, hB1⟩
    obtain ⟨xa, xc, rfl⟩ := hrow.form
    have hC1 := hB1.alloc hB1.size (.cells #[.int .i64 EA, .int .i64 AA] 26)
    clear hrow hqa
    go_wp2_with fail
    go_ret3
    exact ⟨by rw [HR2.out]; rfl, hC1⟩
end Go.Proofs.YtbnhfjhhbgmhfaaDoor
