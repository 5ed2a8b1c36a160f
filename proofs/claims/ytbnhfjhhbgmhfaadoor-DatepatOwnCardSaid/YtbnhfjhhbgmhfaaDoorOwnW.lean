/-
  The walk of DatepatOwn; a map of bools that the call makes.
-/
import Derived.Test.YtbnhfjhhbgmhfaaDoorOwnP
import Derived.Test.YtbnhfjhhbgmhfaaDoorStrW
import Derived.Test.YtbnhfjhhbgmhfaaDoorBackW
import Derived.Maps.OwnSet
import Derived.Maps.Views
namespace Go.Proofs.YtbnhfjhhbgmhfaaDoor
open Go.RowKit Go.PlainAid
open Go.Maps (Keyed int_keyed keyOf_int_mk atKey_put_same atKey_put_other)

theorem PFAt.below {w2 w : World} {v : Value} {l : List PF} {B : Nat} (h : PFAt w2 v l) (hB : Below B w2 w) (hb : w2.heap.size ≤ B) : PFAt w v l := h.later (hB.mono hb)
theorem ownsMap_later {H : Type} {P : Program} {k : TypeId} {R : Value → Option (DataW H × List MemPlace)} {w w' : World} {b n : Nat} {D : DataW H} (h : w.ownsMap P k R b n D) (hB : Below w.heap.size w w') : w'.ownsMap P k R b n D := by
  have hlt := h.lt
  obtain ⟨es, clock, hb, r⟩ := h
  exact ⟨es, clock, (hB.block b hlt).trans hb, r⟩
theorem plainElem_bool_inv {H : Type} {P : Program} {e : TypeId} (he : P.underlying e = some .bool) {v : Value} {z : DataW H × List MemPlace} (h : plainElem P e v = some z) : ∃ x, v = .bool x ∧ z = (.lit (.bool x), []) := by
  unfold plainElem at h
  rw [he] at h
  cases v <;> simp at h
  exact ⟨_, rfl, h.symm⟩
theorem lookup_own_bool {H : Type} {P : Program} {k t e : TypeId} {w : World} {b n : Nat} {D : DataW H} (h : w.ownsMap P k (plainElem P e) b n D) (K : Keyed P k) (ht : P.underlying t = some (.map k e)) (he : P.underlying e = some .bool) (hz : (zeroValue e).run P w = .ok (.bool false) w)
    {key : Value} {kl : Lit} (hkey : keyOf P k key = some kl) : ∃ c, (Instr.lookup t (.map (some b)) key false).run P w = .ok (.bool c) w ∧ D.atKey kl (.lit (.bool false)) = .lit (.bool c) := by
  obtain ⟨v, ps, hrun, hv⟩ := h.lookup K ht hz (plainElem_bool he false) hkey
  obtain ⟨c, rfl, hc⟩ := plainElem_bool_inv he hv
  simp only [Prod.mk.injEq] at hc
  exact ⟨c, hrun, hc.1⟩
theorem lawInt : Keyed Tryd.prog 3 := int_keyed Tryd.underlying3
theorem zeroBool (w : World) : (zeroValue 4).run Tryd.prog w = .ok (.bool false) w := by kernel_rfl
/-- What the map of ranks reads as, behind the first fields. -/
def Rk (w : World) (b n : Nat) (f : Nat → Bool) : Prop := ∃ D : DataW Unit, w.ownsMap Tryd.prog 3 (plainElem Tryd.prog 4) b n D ∧ ∀ r : Nat, 1 ≤ r → D.atKey (.int .i64 (r : Int)) (.lit (.bool false)) = .lit (.bool (f r))
theorem Rk.made (w : World) : Rk (w.alloc (.map #[] 0)) w.heap.size 0 (fun _ => false) := ⟨.map [], World.ownsMap_made _ _ _ _, fun _ _ => rfl⟩
theorem Rk.later {w w' : World} {b n : Nat} {f : Nat → Bool} (h : Rk w b n f) (hB : Below w.heap.size w w') : Rk w' b n f := by
  obtain ⟨D, h1, h2⟩ := h
  exact ⟨D, ownsMap_later h1 hB, h2⟩
theorem Rk.lt {w : World} {b n : Nat} {f : Nat → Bool} (h : Rk w b n f) : b < w.heap.size := by
  obtain ⟨D, h1, _⟩ := h
  exact h1.lt
theorem Rk.same {w : World} {b n m : Nat} {f g : Nat → Bool} (h : Rk w b n f) (hm : n ≤ m) (hg : ∀ r, 1 ≤ r → g r = f r) : Rk w b m g := by
  obtain ⟨D, h1, h2⟩ := h
  exact ⟨D, h1.mono hm, fun r hr => by rw [h2 r hr, hg r hr]⟩
theorem rank_wf (r : Nat) (h : r ≤ 13) : (Lit.int .i64 (r : Int)).wf = true := WalkArith.wf_i64 ⟨by omega, by omega⟩
theorem Rk.look {w : World} {b n : Nat} {f : Nat → Bool} (h : Rk w b n f) (r : Nat) (h1 : 1 ≤ r) (h2 : r ≤ 13) : (Instr.lookup 41 (.map (some b)) (.int .i64 (r : Int)) false).run Tryd.prog w = .ok (.bool (f r)) w := by
  obtain ⟨D, hD, hf⟩ := h
  obtain ⟨c, hrun, hat⟩ := lookup_own_bool hD lawInt Tryd.underlying41 Tryd.underlying4 (zeroBool w) (keyOf_int_mk Tryd.underlying3 (rank_wf r h2))
  rw [hf r h1] at hat
  have e : f r = c := Lit.bool.inj (DataW.lit.inj hat)
  rw [e]
  exact hrun
theorem wpList_rank {ops : Array Oper} {rest : List Oper} {o : Oper} {a : Act} {Q : Exit → Act → World → Prop} {w W0 : World} {B : Nat} (hg : o.guard = none) (m x v : Operand) (hop : o.op = Op.mapUpdate 41 m x v) (hdst : o.dst = none)
    (b n r : Nat) (f : Nat → Bool) (hr : Rk w b n f) (hm : a.eval m = .map (some b)) (hx : a.eval x = .int .i64 (r : Int)) (hv : a.eval v = .bool true) (h1 : 1 ≤ r) (h2 : r ≤ 13) (hn : n ≤ 1000000000) (hB : Below B W0 w) (hz : B ≤ w.heap.size) (hb : B ≤ b)
    (h : ∀ w', Rk w' b (n + 1) (fun q => f q || (r == q)) → Below B W0 w' → (∀ i, i < w.heap.size → i ≠ b → w'.heap[i]? = w.heap[i]?) → wpList Tryd.prog ops Q rest a w') : wpList Tryd.prog ops Q (o :: rest) a w := by
  obtain ⟨D, hD, hf⟩ := hr
  refine wpList_mapUpdate_own w hg m x v 41 hop 3 4 lawInt Tryd.underlying41 _ b n D hm hD (by unfold maxLen; omega) _ _ _ hx hv (keyOf_int_mk Tryd.underlying3 (rank_wf r h2)) _ [] (plainElem_bool Tryd.underlying4 true) ?_
  intro w' hown hgrow
  rw [hdst]
  refine h w' ⟨_, hown, fun q hq => ?_⟩ (hB.grown hgrow hz (fun k hk => by cases hk; exact hb)) (fun i hi hne => hgrow.block i hi (fun e => hne (by injection e)))
  by_cases e : q = r
  · subst e
    obtain ⟨es, _, _, _, _, rfl⟩ := hD
    rw [atKey_put_same ⟨_, rfl⟩ (show WideAt.IsKeyLit (.int .i64 (q : Int)) from trivial)]
    simp
  · rw [atKey_put_other (by intro g; injection g with _ g; omega), hf q hq]
    simp only
    rw [show (r == q) = false by simp; omega, Bool.or_false]

set_option maxRecDepth 100000 in
set_option maxHeartbeats 4000000 in
theorem datepatOwn_err (s t : ByteArray) (w : World) (hs : s.size ≤ 140737488351232) (hG : Gl w) (hE : (dpParse s).2.1 ≠ 0) :
    Calls Tryd.prog 7 #[.string s, .string t] w fun e w' => e = .returned (.bool true) ∧ Below w.heap.size w w' := by
  have hp := fun W => dparse_any s W (by omega)
  generalize dpParse s = r at *
  obtain ⟨L, E, A⟩ := r
  have hEb : (E != 0) = true := by simpa using hE
  clear hE
  go_enter Tryd.func7, Tryd.ntmps7
  go_wp2_with fail
  refine (wakes_any _ hG).mono ?_
  rintro e w0 ⟨rfl, hB0⟩
  have g0 : GB w w0 := ⟨hG.later hB0, hB0⟩
  clear hB0
  go_wp2_with fail
  refine (hp _).mono ?_
  rintro e w1 ⟨⟨v1, rfl, hrow1⟩, hB1⟩
  have g1 := g0.on hB1
  clear hp hB1 g0
  have sp := Blk.new w1 #[.int .i64 E, .int .i64 A] 26
  have g2 := g1.alloc (.cells #[.int .i64 E, .int .i64 A] 26)
  have hrow2 := hrow1.later ((Below.refl w1.heap.size w1).alloc (Nat.le_refl _) (.cells #[.int .i64 E, .int .i64 A] 26))
  have c0 := sp.cell 0
  simp at c0
  obtain ⟨a1, k1, rfl⟩ := hrow1.form
  clear hrow1 g1
  go_wp2_with fail
  go_ret
  exact ⟨rfl, g2.2⟩

set_option maxRecDepth 100000 in
set_option maxHeartbeats 4000000 in
theorem datepatOwn_long (s t : ByteArray) (w : World) (hs : s.size ≤ 140737488351232) (hG : Gl w) (hE : (dpParse s).2.1 = 0) (h4 : 4096 < (printT (dpParse s).1).size) :
    Calls Tryd.prog 7 #[.string s, .string t] w fun e w' => e = .returned (.bool true) ∧ Below w.heap.size w w' := by
  have hp := fun W => dparse_any s W (by omega)
  have hm := parse_may hE
  have hsz := dpParse_sz s
  have hll := dpParse_len s
  generalize dpParse s = r at *
  obtain ⟨L, E, A⟩ := r
  simp only at hE h4 hm hsz hll
  subst hE
  have HOF := Lib.hid (fun v W h g => dOf_any v L W h hsz g)
  have ho : dpOf L = (⟨#[]⟩, 3) := by unfold dpOf dpPrint; rw [if_pos hm, if_pos h4]; rfl
  rw [ho] at HOF
  clear ho h4 hm
  go_enter Tryd.func7, Tryd.ntmps7
  go_wp2_with fail
  refine (wakes_any _ hG).mono ?_
  rintro e w0 ⟨rfl, hB0⟩
  have g0 : GB w w0 := ⟨hG.later hB0, hB0⟩
  clear hB0
  go_wp2_with fail
  refine (hp _).mono ?_
  rintro e w1 ⟨⟨v1, rfl, hrow1⟩, hB1⟩
  have g1 := g0.on hB1
  clear hp hB1 g0
  have sp := Blk.new w1 #[.int .i64 0, .int .i64 A] 26
  have g2 := g1.alloc (.cells #[.int .i64 0, .int .i64 A] 26)
  have hrow2 := hrow1.later ((Below.refl w1.heap.size w1).alloc (Nat.le_refl _) (.cells #[.int .i64 0, .int .i64 A] 26))
  have c0 := sp.cell 0
  simp at c0
  obtain ⟨a1, k1, rfl⟩ := hrow1.form
  clear hrow1 g1
  go_wp2_with fail
  refine (HOF.out _ _ (hrow2.at hll) g2.1).mono ?_
  rintro e w3 ⟨rfl, hB3⟩
  have g3 := g2.on hB3
  have hrow3 := hrow2.later hB3
  clear hrow2 g2 hB3 c0 sp
  go_wp2_with fail
  go_ret
  exact ⟨rfl, g3.2⟩

set_option maxRecDepth 100000 in
set_option maxHeartbeats 8000000 in
theorem datepatOwn_yes (s t : ByteArray) (w : World) (hs : s.size ≤ 140737488351232) (ht : t.size ≤ 140737488351232) (hG : Gl w) (hE : (dpParse s).2.1 = 0) (h4 : ¬ 4096 < (printT (dpParse s).1).size) (hg : (skel t).2.1 = 0) :
    Calls Tryd.prog 7 #[.string s, .string t] w fun e w' => e = .returned (.bool true) ∧ Below w.heap.size w w' := by
  have hp := fun W => dparse_any s W (by omega)
  have hm := parse_may hE
  have hsz := dpParse_sz s
  have hll := dpParse_len s
  generalize dpParse s = r at *
  obtain ⟨L, E, A⟩ := r
  simp only at hE h4 hm hsz hll hg
  subst hE
  have hin := hsz.fin hm
  have hos := own_skel hin
  have HIN := Lib.hid (fun x hx => (hin.2 x hx).2)
  have HOF := Lib.hid (fun v W h g => dOf_any v L W h hsz g)
  have HST := Lib.hid (fun v u W h h2 g => stretch_any v L u W h hsz h2 g)
  have HST2 := Lib.hid (fun v W h g => stretch_any v L t W h hsz (by omega) g)
  have hp0 : dpPrint L = (printT L, 0) := by unfold dpPrint; rw [if_pos hm, if_neg h4]
  have ho : dpOf L = (printT (ofL L), 0) := by unfold dpOf; rw [hp0]; rfl
  have hd1 : dStr L (printT (ofL L)) = (stretchR L (ofL L), 0) := by unfold dStr; rw [hp0, hos.1]; rfl
  have HOWN := Lib.hid (fun h => own_stay (l := L) h (fun x hx => (hin.2 x hx).1))
  have HK1 := Lib.hid (fun i (hi : i < L.length) (h' : i < (stretchR L (ofL L)).length) => show ((stretchR L (ofL L))[i]'h').1 = L[i].1 ∧ ((stretchR L (ofL L))[i]'h').2.2 = L[i].2.2 by rw [stretch_at hi]; exact str_keeps _ _)
  have HL1 := Lib.hid (stretch_len L (ofL L))
  have HOS := Lib.hid (show (printT (ofL L)).size ≤ 1000000000000000 by have := hos.2; omega)
  have hd2 : dStr L t = (stretchR L (skel t).1, 0) := by unfold dStr; rw [hp0, if_neg (fun g => g rfl), if_neg (fun g => g hg)]
  have HK2 := Lib.hid (fun i (hi : i < L.length) (h' : i < (stretchR L (skel t).1).length) => show ((stretchR L (skel t).1)[i]'h').1 = L[i].1 ∧ ((stretchR L (skel t).1)[i]'h').2.2 = L[i].2.2 by rw [stretch_at hi]; exact str_keeps _ _)
  have HL2 := Lib.hid (stretch_len L (skel t).1)
  have HST1 := Lib.hid (fun v W h g => HST.out v (printT (ofL L)) W h HOS.out g)
  rw [hd1] at HST1
  rw [hd2] at HST2
  rw [ho] at HOF
  clear HST
  clear hd1 hd2 ho hp0 h4 hm hos hin hg
  generalize printT (ofL L) = O at *
  generalize stretchR L (ofL L) = D1 at *
  generalize stretchR L (skel t).1 = D2 at *
  have hmm := @run_makeMap Tryd.prog
  go_enter Tryd.func7, Tryd.ntmps7
  go_wp2_with fail
  refine (wakes_any _ hG).mono ?_
  rintro e w0 ⟨rfl, hB0⟩
  have g0 : GB w w0 := ⟨hG.later hB0, hB0⟩
  clear hB0
  go_wp2_with fail
  refine (hp _).mono ?_
  rintro e w1 ⟨⟨v1, rfl, hrow1⟩, hB1⟩
  have g1 := g0.on hB1
  clear hp hB1 g0
  have sp := Blk.new w1 #[.int .i64 0, .int .i64 A] 26
  have g2 := g1.alloc (.cells #[.int .i64 0, .int .i64 A] 26)
  have hrow2 := hrow1.later ((Below.refl w1.heap.size w1).alloc (Nat.le_refl _) (.cells #[.int .i64 0, .int .i64 A] 26))
  have c0 := sp.cell 0
  simp at c0
  obtain ⟨a1, k1, rfl⟩ := hrow1.form
  clear hrow1 g1
  go_wp2_with fail
  refine (HOF.out _ _ (hrow2.at hll) g2.1).mono ?_
  rintro e w3 ⟨rfl, hB3⟩
  have g3 := g2.on hB3
  have hrow3 := hrow2.later hB3
  clear hrow2 g2 hB3 c0 sp
  go_wp2_with fail
  refine (HST1.out _ _ (hrow3.arg hll) g3.1).mono ?_
  rintro e w4 ⟨v4, rfl, hr4, hB4⟩
  have g4 := g3.on hB4
  have hrow4 := hrow3.later hB4
  clear hrow3 g3 hB4
  go_wp2_with fail
  refine (HST2.out _ _ (hrow4.arg hll) g4.1).mono ?_
  rintro e w5 ⟨v5, rfl, hr5, hB5⟩
  have g5 := g4.on hB5
  have hrow5 := hrow4.later hB5
  have hr4 := hr4.later hB5
  have hl4 := HL1.out
  have hl5 := HL2.out
  obtain ⟨a4, k4, rfl⟩ := hr4.form
  obtain ⟨a5, k5, rfl⟩ := hr5.form
  have p1 := hrow5.at hll
  have p4 := hr4.at (by rw [HL1.out]; exact hll)
  have p5 := hr5.at (by rw [HL2.out]; exact hll)
  rw [HL1.out] at p4 ⊢
  rw [HL2.out] at p5 ⊢
  clear hrow4 g4 hB5 hrow5 hr4 hr5 hl4 hl5
  go_wp2_with fail
  have hmk := Rk.made w5
  have hM0 := (Below.refl w5.heap.size w5).alloc (Nat.le_refl _) (.map #[] 0)
  go_loopg [14, 72] L.length (fun g s14 s72 wr => ∃ i : Nat, s72 = .int .i64 (i : Int) ∧ i + g = L.length ∧ s14 = .bool (twN L i) ∧ Rk wr w5.heap.size i (hasR (L.take i)) ∧ Below w5.heap.size w5 wr)
  case atStart => exact ⟨0, rfl, by omega, rfl, hmk, hM0⟩
  case round =>
    obtain ⟨i, rfl, hg, rfl, hrk, hB⟩ := hrel
    clear hmk hM0
    by_cases hi : i < L.length
    · have hiI : (i : Int) < L.length := by omega
      have hi0 : (0 : Int) ≤ i := by omega
      have hi4 : (i : Int) < L.length := hiI
      have q1 := p1.get i hi
      have q4 := p4.get i (by rw [HL1.out]; exact hi)
      have q5 := p5.get i (by rw [HL2.out]; exact hi)
      have e4 := HK1.out i hi (by rw [HL1.out]; exact hi)
      have e5 := HK2.out i hi (by rw [HL2.out]; exact hi)
      rw [e4.1, e4.2] at q4
      rw [e5.1, e5.2] at q5
      have htw0 := tw_none hi
      have htw1 := tw_some hi
      have hnx := hasR_next hi
      have hin := HIN.out L[i] (List.getElem_mem hi)
      generalize L[i] = x at *
      obtain ⟨b, c, t'⟩ := x
      obtain ⟨x1, o1, rfl, hx1, y0, y1, y2⟩ := q1
      obtain ⟨x4, o4, rfl, hx4, z0, _, z2⟩ := q4
      obtain ⟨x5, o5, rfl, hx5, u0, _, u2⟩ := q5
      simp only at y0 y1 y2 z0 z2 htw0 htw1 hnx hin u0 u2
      have y0 := (hB.cell (p := ⟨x1, _, none⟩) hx1).trans y0
      have y1 := (hB.cell (p := ⟨x1, _, none⟩) hx1).trans y1
      have y2 := (hB.cell (p := ⟨x1, _, none⟩) hx1).trans y2
      have z0 := (hB.cell (p := ⟨x4, _, none⟩) hx4).trans z0
      have z2 := (hB.cell (p := ⟨x4, _, none⟩) hx4).trans z2
      have u0 := (hB.cell (p := ⟨x5, _, none⟩) hx5).trans u0
      have u2 := (hB.cell (p := ⟨x5, _, none⟩) hx5).trans u2
      clear e4 e5
      have hz := hB.size
      have fk := Blk.new wr #[.int .u8 b, .int .i64 c, .string t'] 43
      have hA := (Below.refl wr.heap.size wr).alloc (Nat.le_refl _) (.cells #[.int .u8 b, .int .i64 c, .string t'] 43)
      have hB1 := hB.alloc hz (.cells #[.int .u8 b, .int .i64 c, .string t'] 43)
      have hrk1 := hrk.later hA
      have hfb : wr.heap.size ≠ w5.heap.size := by have := hrk.lt; omega
      have y0' := cell_later y0 hA
      have z0' := cell_later z0 hA
      have z2' := cell_later z2 hA
      have u0' := cell_later u0 hA
      have u2' := cell_later u2 hA
      go_upto_region 18 with fail
      generalize wr.alloc (.cells #[.int .u8 b, .int .i64 c, .string t'] 43) = wj at *
      have c0 := fk.cell 0
      have c2 := fk.cell 2
      simp at c0 c2
      clear y0 y1 y2 z0 z2 hA hrk u0 u2
      go_wp2_with fail
      refine (rank_q b _).mono ?_
      rintro e w6 ⟨rfl, rfl⟩
      by_cases h0 : rankB b = 0
      · have hr0 : ¬ (0 : Int) < (rankB b : Int) := by omega
        have htw := htw0 h0
        have HTW := Lib.hid htw
        have hrk2 : Rk w6 w5.heap.size (i + 1) (hasR (L.take (i + 1))) := hrk1.same (by omega) (fun r hr => by rw [hnx r, show (rankB b == r) = false by simp; omega, Bool.or_false])
        clear htw htw0 htw1 hnx h0
        go_upto_region 22 with fail
        go_quiet (fail)
        have hBn := bdrN hB1 nq
        have hrkn := hrk2.later (bdrN (Below.refl w6.heap.size w6) nq)
        go_wp2_with fail
        go_roundg (gk - 1)
        case rel => exact ⟨i + 1, by push_cast; rfl, by omega, by rw [HTW.out], hrkn, hBn⟩
        case measure => omega
      · have hr0 : (0 : Int) < (rankB b : Int) := by omega
        have htw := htw1 h0
        have HTW := Lib.hid htw
        have hlk := hrk1.look (rankB b) (by omega) (rankB_le b)
        have hr1 : 1 ≤ rankB b := by omega
        have hr13 := rankB_le b
        have hNX := Lib.hid hnx
        have hz6 := hB1.size
        clear htw htw0 htw1 hnx h0
        cases hq : twN L i with
        | true =>
          go_wp2_with (at_mapUpdate; go_must (refine wpList_rank rfl _ _ _ rfl rfl w5.heap.size i (rankB b) _ hrk1 rfl rfl rfl hr1 hr13 (by omega) hB1 hz6 (Nat.le_refl _) ?_); intro w7 hrk7 hB7 hk7)
          have keep : ∀ (g o : Nat) (v : Value), w6.cell? ⟨g, o, none⟩ = some v → g ≠ w5.heap.size → w7.cell? ⟨g, o, none⟩ = some v := fun g o v h hne => by
            have hl := World.block_lt_of_cell? w6 ⟨g, o, none⟩ h
            rw [← h]
            simp only [World.cell?, hk7 g hl hne]
          have c0 := keep _ _ _ c0 hfb
          have c2 := keep _ _ _ c2 hfb
          have z0' := keep _ _ _ z0' (by omega)
          have z2' := keep _ _ _ z2' (by omega)
          have u0' := keep _ _ _ u0' (by omega)
          have u2' := keep _ _ _ u2' (by omega)
          have hrk2 : Rk w7 w5.heap.size (i + 1) (hasR (L.take (i + 1))) := hrk7.same (Nat.le_refl _) (fun r hr => by rw [hNX.out r])
          have HQ := Lib.hid hq
          clear keep hk7 hlk hq
          go_upto_region 22 with fail
          go_quiet (fail)
          have hBn := bdrN hB7 nq
          have hrkn := hrk2.later (bdrN (Below.refl w7.heap.size w7) nq)
          go_wp2_with fail
          go_roundg (gk - 1)
          case rel => exact ⟨i + 1, by push_cast; rfl, by omega, by rw [HTW.out, HQ.out]; rfl, hrkn, hBn⟩
          case measure => omega
        | false =>
          go_wp2_with (at_mapUpdate; go_must (refine wpList_rank rfl _ _ _ rfl rfl w5.heap.size i (rankB b) _ hrk1 rfl rfl rfl hr1 hr13 (by omega) hB1 hz6 (Nat.le_refl _) ?_); intro w7 hrk7 hB7 hk7)
          have keep : ∀ (g o : Nat) (v : Value), w6.cell? ⟨g, o, none⟩ = some v → g ≠ w5.heap.size → w7.cell? ⟨g, o, none⟩ = some v := fun g o v h hne => by
            have hl := World.block_lt_of_cell? w6 ⟨g, o, none⟩ h
            rw [← h]
            simp only [World.cell?, hk7 g hl hne]
          have c0 := keep _ _ _ c0 hfb
          have c2 := keep _ _ _ c2 hfb
          have z0' := keep _ _ _ z0' (by omega)
          have z2' := keep _ _ _ z2' (by omega)
          have u0' := keep _ _ _ u0' (by omega)
          have u2' := keep _ _ _ u2' (by omega)
          have hrk2 : Rk w7 w5.heap.size (i + 1) (hasR (L.take (i + 1))) := hrk7.same (Nat.le_refl _) (fun r hr => by rw [hNX.out r])
          have HQ := Lib.hid hq
          clear keep hk7 hlk hq
          go_upto_region 22 with fail
          go_quiet (fail)
          have hBn := bdrN hB7 nq
          have hrkn := hrk2.later (bdrN (Below.refl w7.heap.size w7) nq)
          go_wp2_with fail
          go_roundg (gk - 1)
          case rel => exact ⟨i + 1, by push_cast; rfl, by omega, by rw [HTW.out, HQ.out, Bool.false_or], hrkn, hBn⟩
          case measure => omega
    · have hiI : ¬ (i : Int) < L.length := by omega
      have hie : i = L.length := by omega
      subst hie
      cases hq : twN L L.length with
      | true =>
        go_wp2_with fail
        go_ret
        exact ⟨rfl, g5.2.trans (hB.mono g5.2.size)⟩
      | false =>
        have hst := HOWN.out hq
        have q1 := p1.below hB (Nat.le_refl _)
        have q4 := p4.below hB (Nat.le_refl _)
        rw [hst] at q4
        go_wp2_with fail
        refine (same_yes _ _ L _ q4 q1).mono ?_
        rintro e w8 ⟨rfl, hB8⟩
        go_wp2_with fail
        go_ret
        exact ⟨rfl, g5.2.trans ((hB.trans (hB8.mono hB.size)).mono g5.2.size)⟩

set_option maxRecDepth 100000 in
set_option maxHeartbeats 8000000 in
theorem datepatOwn_no (s t : ByteArray) (w : World) (hs : s.size ≤ 140737488351232) (ht : t.size ≤ 140737488351232) (hG : Gl w) (hE : (dpParse s).2.1 = 0) (h4 : ¬ 4096 < (printT (dpParse s).1).size) (hg : (skel t).2.1 ≠ 0) :
    Calls Tryd.prog 7 #[.string s, .string t] w fun e w' => e = .returned (.bool true) ∧ Below w.heap.size w w' := by
  have hp := fun W => dparse_any s W (by omega)
  have hm := parse_may hE
  have hsz := dpParse_sz s
  have hll := dpParse_len s
  generalize dpParse s = r at *
  obtain ⟨L, E, A⟩ := r
  simp only at hE h4 hm hsz hll hg
  subst hE
  have hin := hsz.fin hm
  have hos := own_skel hin
  have HIN := Lib.hid (fun x hx => (hin.2 x hx).2)
  have HOF := Lib.hid (fun v W h g => dOf_any v L W h hsz g)
  have HST := Lib.hid (fun v u W h h2 g => stretch_any v L u W h hsz h2 g)
  have HST2 := Lib.hid (fun v W h g => stretch_any v L t W h hsz (by omega) g)
  have hp0 : dpPrint L = (printT L, 0) := by unfold dpPrint; rw [if_pos hm, if_neg h4]
  have ho : dpOf L = (printT (ofL L), 0) := by unfold dpOf; rw [hp0]; rfl
  have hd1 : dStr L (printT (ofL L)) = (stretchR L (ofL L), 0) := by unfold dStr; rw [hp0, hos.1]; rfl
  have HOWN := Lib.hid (fun h => own_stay (l := L) h (fun x hx => (hin.2 x hx).1))
  have HK1 := Lib.hid (fun i (hi : i < L.length) (h' : i < (stretchR L (ofL L)).length) => show ((stretchR L (ofL L))[i]'h').1 = L[i].1 ∧ ((stretchR L (ofL L))[i]'h').2.2 = L[i].2.2 by rw [stretch_at hi]; exact str_keeps _ _)
  have HL1 := Lib.hid (stretch_len L (ofL L))
  have HOS := Lib.hid (show (printT (ofL L)).size ≤ 1000000000000000 by have := hos.2; omega)
  have hd2 : dStr L t = ([], 272) := by unfold dStr; rw [hp0, if_neg (fun g => g rfl), if_pos hg]
  have HL2 := Lib.hid (show ([] : List PF).length = 0 from rfl)
  have HST1 := Lib.hid (fun v W h g => HST.out v (printT (ofL L)) W h HOS.out g)
  rw [hd1] at HST1
  rw [hd2] at HST2
  rw [ho] at HOF
  clear HST
  clear hd1 hd2 ho hp0 h4 hm hos hin hg
  generalize printT (ofL L) = O at *
  generalize stretchR L (ofL L) = D1 at *
  have hmm := @run_makeMap Tryd.prog
  have h272 : ((272 : Int) == 0) = false := by decide
  go_enter Tryd.func7, Tryd.ntmps7
  go_wp2_with fail
  refine (wakes_any _ hG).mono ?_
  rintro e w0 ⟨rfl, hB0⟩
  have g0 : GB w w0 := ⟨hG.later hB0, hB0⟩
  clear hB0
  go_wp2_with fail
  refine (hp _).mono ?_
  rintro e w1 ⟨⟨v1, rfl, hrow1⟩, hB1⟩
  have g1 := g0.on hB1
  clear hp hB1 g0
  have sp := Blk.new w1 #[.int .i64 0, .int .i64 A] 26
  have g2 := g1.alloc (.cells #[.int .i64 0, .int .i64 A] 26)
  have hrow2 := hrow1.later ((Below.refl w1.heap.size w1).alloc (Nat.le_refl _) (.cells #[.int .i64 0, .int .i64 A] 26))
  have c0 := sp.cell 0
  simp at c0
  obtain ⟨a1, k1, rfl⟩ := hrow1.form
  clear hrow1 g1
  go_wp2_with fail
  refine (HOF.out _ _ (hrow2.at hll) g2.1).mono ?_
  rintro e w3 ⟨rfl, hB3⟩
  have g3 := g2.on hB3
  have hrow3 := hrow2.later hB3
  clear hrow2 g2 hB3 c0 sp
  go_wp2_with fail
  refine (HST1.out _ _ (hrow3.arg hll) g3.1).mono ?_
  rintro e w4 ⟨v4, rfl, hr4, hB4⟩
  have g4 := g3.on hB4
  have hrow4 := hrow3.later hB4
  clear hrow3 g3 hB4
  go_wp2_with fail
  refine (HST2.out _ _ (hrow4.arg hll) g4.1).mono ?_
  rintro e w5 ⟨v5, rfl, hr5, hB5⟩
  have g5 := g4.on hB5
  have hrow5 := hrow4.later hB5
  have hr4 := hr4.later hB5
  have hl4 := HL1.out
  have hl5 := HL2.out
  obtain ⟨a4, k4, rfl⟩ := hr4.form
  obtain ⟨a5, k5, rfl⟩ := hr5.form
  have p1 := hrow5.at hll
  have p4 := hr4.at (by rw [HL1.out]; exact hll)
  rw [HL1.out] at p4 ⊢
  clear hrow4 g4 hB5 hrow5 hr4 hr5 hl4 hl5
  go_wp2_with fail
  have hmk := Rk.made w5
  have hM0 := (Below.refl w5.heap.size w5).alloc (Nat.le_refl _) (.map #[] 0)
  go_loopg [14, 72] L.length (fun g s14 s72 wr => ∃ i : Nat, s72 = .int .i64 (i : Int) ∧ i + g = L.length ∧ s14 = .bool (twN L i) ∧ Rk wr w5.heap.size i (hasR (L.take i)) ∧ Below w5.heap.size w5 wr)
  case atStart => exact ⟨0, rfl, by omega, rfl, hmk, hM0⟩
  case round =>
    obtain ⟨i, rfl, hg, rfl, hrk, hB⟩ := hrel
    clear hmk hM0
    by_cases hi : i < L.length
    · have hiI : (i : Int) < L.length := by omega
      have hi0 : (0 : Int) ≤ i := by omega
      have hi4 : (i : Int) < L.length := hiI
      have q1 := p1.get i hi
      have q4 := p4.get i (by rw [HL1.out]; exact hi)
      have e4 := HK1.out i hi (by rw [HL1.out]; exact hi)
      rw [e4.1, e4.2] at q4
      have htw0 := tw_none hi
      have htw1 := tw_some hi
      have hnx := hasR_next hi
      have hin := HIN.out L[i] (List.getElem_mem hi)
      generalize L[i] = x at *
      obtain ⟨b, c, t'⟩ := x
      obtain ⟨x1, o1, rfl, hx1, y0, y1, y2⟩ := q1
      obtain ⟨x4, o4, rfl, hx4, z0, _, z2⟩ := q4
      simp only at y0 y1 y2 z0 z2 htw0 htw1 hnx hin
      have y0 := (hB.cell (p := ⟨x1, _, none⟩) hx1).trans y0
      have y1 := (hB.cell (p := ⟨x1, _, none⟩) hx1).trans y1
      have y2 := (hB.cell (p := ⟨x1, _, none⟩) hx1).trans y2
      have z0 := (hB.cell (p := ⟨x4, _, none⟩) hx4).trans z0
      have z2 := (hB.cell (p := ⟨x4, _, none⟩) hx4).trans z2
      clear e4
      have hz := hB.size
      have fk := Blk.new wr #[.int .u8 b, .int .i64 c, .string t'] 43
      have hA := (Below.refl wr.heap.size wr).alloc (Nat.le_refl _) (.cells #[.int .u8 b, .int .i64 c, .string t'] 43)
      have hB1 := hB.alloc hz (.cells #[.int .u8 b, .int .i64 c, .string t'] 43)
      have hrk1 := hrk.later hA
      have hfb : wr.heap.size ≠ w5.heap.size := by have := hrk.lt; omega
      have y0' := cell_later y0 hA
      have z0' := cell_later z0 hA
      have z2' := cell_later z2 hA
      go_upto_region 18 with fail
      generalize wr.alloc (.cells #[.int .u8 b, .int .i64 c, .string t'] 43) = wj at *
      have c0 := fk.cell 0
      have c2 := fk.cell 2
      simp at c0 c2
      clear y0 y1 y2 z0 z2 hA hrk
      go_wp2_with fail
      refine (rank_q b _).mono ?_
      rintro e w6 ⟨rfl, rfl⟩
      by_cases h0 : rankB b = 0
      · have hr0 : ¬ (0 : Int) < (rankB b : Int) := by omega
        have htw := htw0 h0
        have HTW := Lib.hid htw
        have hrk2 : Rk w6 w5.heap.size (i + 1) (hasR (L.take (i + 1))) := hrk1.same (by omega) (fun r hr => by rw [hnx r, show (rankB b == r) = false by simp; omega, Bool.or_false])
        clear htw htw0 htw1 hnx h0
        go_upto_region 22 with fail
        go_quiet (fail)
        have hBn := bdrN hB1 nq
        have hrkn := hrk2.later (bdrN (Below.refl w6.heap.size w6) nq)
        go_wp2_with fail
        go_roundg (gk - 1)
        case rel => exact ⟨i + 1, by push_cast; rfl, by omega, by rw [HTW.out], hrkn, hBn⟩
        case measure => omega
      · have hr0 : (0 : Int) < (rankB b : Int) := by omega
        have htw := htw1 h0
        have HTW := Lib.hid htw
        have hlk := hrk1.look (rankB b) (by omega) (rankB_le b)
        have hr1 : 1 ≤ rankB b := by omega
        have hr13 := rankB_le b
        have hNX := Lib.hid hnx
        have hz6 := hB1.size
        clear htw htw0 htw1 hnx h0
        cases hq : twN L i with
        | true =>
          go_wp2_with (at_mapUpdate; go_must (refine wpList_rank rfl _ _ _ rfl rfl w5.heap.size i (rankB b) _ hrk1 rfl rfl rfl hr1 hr13 (by omega) hB1 hz6 (Nat.le_refl _) ?_); intro w7 hrk7 hB7 hk7)
          have keep : ∀ (g o : Nat) (v : Value), w6.cell? ⟨g, o, none⟩ = some v → g ≠ w5.heap.size → w7.cell? ⟨g, o, none⟩ = some v := fun g o v h hne => by
            have hl := World.block_lt_of_cell? w6 ⟨g, o, none⟩ h
            rw [← h]
            simp only [World.cell?, hk7 g hl hne]
          have c0 := keep _ _ _ c0 hfb
          have c2 := keep _ _ _ c2 hfb
          have z0' := keep _ _ _ z0' (by omega)
          have z2' := keep _ _ _ z2' (by omega)
          have hrk2 : Rk w7 w5.heap.size (i + 1) (hasR (L.take (i + 1))) := hrk7.same (Nat.le_refl _) (fun r hr => by rw [hNX.out r])
          have HQ := Lib.hid hq
          clear keep hk7 hlk hq
          go_upto_region 22 with fail
          go_quiet (fail)
          have hBn := bdrN hB7 nq
          have hrkn := hrk2.later (bdrN (Below.refl w7.heap.size w7) nq)
          go_wp2_with fail
          go_roundg (gk - 1)
          case rel => exact ⟨i + 1, by push_cast; rfl, by omega, by rw [HTW.out, HQ.out]; rfl, hrkn, hBn⟩
          case measure => omega
        | false =>
          go_wp2_with (at_mapUpdate; go_must (refine wpList_rank rfl _ _ _ rfl rfl w5.heap.size i (rankB b) _ hrk1 rfl rfl rfl hr1 hr13 (by omega) hB1 hz6 (Nat.le_refl _) ?_); intro w7 hrk7 hB7 hk7)
          have keep : ∀ (g o : Nat) (v : Value), w6.cell? ⟨g, o, none⟩ = some v → g ≠ w5.heap.size → w7.cell? ⟨g, o, none⟩ = some v := fun g o v h hne => by
            have hl := World.block_lt_of_cell? w6 ⟨g, o, none⟩ h
            rw [← h]
            simp only [World.cell?, hk7 g hl hne]
          have c0 := keep _ _ _ c0 hfb
          have c2 := keep _ _ _ c2 hfb
          have z0' := keep _ _ _ z0' (by omega)
          have z2' := keep _ _ _ z2' (by omega)
          have hrk2 : Rk w7 w5.heap.size (i + 1) (hasR (L.take (i + 1))) := hrk7.same (Nat.le_refl _) (fun r hr => by rw [hNX.out r])
          have HQ := Lib.hid hq
          clear keep hk7 hlk hq
          go_upto_region 22 with fail
          go_quiet (fail)
          have hBn := bdrN hB7 nq
          have hrkn := hrk2.later (bdrN (Below.refl w7.heap.size w7) nq)
          go_wp2_with fail
          go_roundg (gk - 1)
          case rel => exact ⟨i + 1, by push_cast; rfl, by omega, by rw [HTW.out, HQ.out, Bool.false_or], hrkn, hBn⟩
          case measure => omega
    · have hiI : ¬ (i : Int) < L.length := by omega
      have hie : i = L.length := by omega
      subst hie
      cases hq : twN L L.length with
      | true =>
        go_wp2_with fail
        go_ret
        exact ⟨rfl, g5.2.trans (hB.mono g5.2.size)⟩
      | false =>
        have hst := HOWN.out hq
        have q1 := p1.below hB (Nat.le_refl _)
        have q4 := p4.below hB (Nat.le_refl _)
        rw [hst] at q4
        go_wp2_with fail
        refine (same_yes _ _ L _ q4 q1).mono ?_
        rintro e w8 ⟨rfl, hB8⟩
        go_wp2_with fail
        go_ret
        exact ⟨rfl, g5.2.trans ((hB.trans (hB8.mono hB.size)).mono g5.2.size)⟩

theorem datepatOwn_walk (s t : ByteArray) (w : World) (hs : s.size ≤ 140737488351232) (ht : t.size ≤ 140737488351232) (hG : Gl w) :
    Calls Tryd.prog 7 #[.string s, .string t] w fun e w' => e = .returned (.bool true) ∧ Below w.heap.size w w' := by
  by_cases hE : (dpParse s).2.1 = 0
  · by_cases h4 : 4096 < (printT (dpParse s).1).size
    · exact datepatOwn_long s t w hs hG hE h4
    · by_cases hg : (skel t).2.1 = 0
      · exact datepatOwn_yes s t w hs ht hG hE h4 hg
      · exact datepatOwn_no s t w hs ht hG hE h4 hg
  · exact datepatOwn_err s t w hs hG hE
end Go.Proofs.YtbnhfjhhbgmhfaaDoor
