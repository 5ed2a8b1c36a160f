/-
  Patterns of dates: the walk of Stretch.
-/
import Derived.Test.YtbnhfjhhbgmhfaaDoorPrintsW
import Derived.Test.YtbnhfjhhbgmhfaaDoorDpA
import Derived.Test.YtbnhfjhhbgmhfaaDoorStrP
import Derived.WalkSpells
namespace Go.Proofs.YtbnhfjhhbgmhfaaDoor
open Go.RowKit Go.PlainAid

theorem PFRow.arg {base : Nat} {w : World} {v : Value} {l : List PF} (h : PFRow base w v l) (hl : l.length ≤ 1000000000) : PFArg w v l := by
  refine ⟨h.at hl, ?_⟩
  rcases h.read with ⟨rfl, rfl⟩ | ⟨g, cap, rfl, _⟩
  · exact ⟨none, 0, rfl, fun _ => ⟨rfl, rfl⟩⟩
  · exact ⟨_, _, rfl, fun e => by cases e⟩
/-- A field in the middle of a row. -/
theorem PFRow.mid {base : Nat} {w : World} {v : Value} {A B : List PF} {y : PF} {i : Nat} (h : PFRow base w v (A ++ y :: B)) (hA : A.length = i) :
    ∃ g cap, v = .slice (some ⟨g, 0, none⟩) (A ++ y :: B).length cap ∧ base ≤ g ∧ g < w.heap.size ∧ w.cell? ⟨g, i * 3, none⟩ = some (.int .u8 y.1) ∧ w.cell? ⟨g, i * 3 + 1, none⟩ = some (.int .i64 y.2.1) ∧ w.cell? ⟨g, i * 3 + 2, none⟩ = some (.string y.2.2) := by
  subst hA
  rcases h.read with ⟨e, _⟩ | ⟨g, cap, hv, hb, hg, _, _, hc⟩
  · exact absurd e (by simp)
  · have hi : A.length < (A ++ y :: B).length := by rw [List.length_append, List.length_cons]; omega
    have := hc A.length hi
    rw [show (A ++ y :: B)[A.length] = y by simp] at this
    exact ⟨g, cap, hv, hb, hg, this⟩
theorem PFRow.mid1 {base : Nat} {w : World} {g n cap i : Nat} {A B : List PF} {y : PF} (h : PFRow base w (.slice (some ⟨g, 0, none⟩) n cap) (A ++ y :: B)) (hA : A.length = i) : w.cell? ⟨g, i * 3 + 1, none⟩ = some (.int .i64 y.2.1) := by
  obtain ⟨g', c', e, _, _, _, p1, _⟩ := h.mid hA
  injection e with e
  injection e with e
  injection e with e
  subst e
  exact p1
/-- A field's count turned, in place. -/
theorem PFRow.count {base : Nat} {w : World} {g n cap i : Nat} {A B : List PF} {b c : Int} {t : ByteArray} (h : PFRow base w (.slice (some ⟨g, 0, none⟩) n cap) (A ++ (b, c, t) :: B)) (hA : A.length = i) (k : Int) :
    PFRow base (w.setCell ⟨g, i * 3 + 1, none⟩ (.int .i64 k)) (.slice (some ⟨g, 0, none⟩) n cap) (A ++ (b, k, t) :: B) := by
  subst hA
  obtain ⟨h1, h2⟩ := h
  rcases h2 with ⟨hv, _⟩ | ⟨g', cap', cur, hv, hg, hh, hc, hm, hs, ht⟩
  · cases hv
  have e1 : g = g' := by injection hv with e; injection e with e; injection e
  subst e1
  have hl := pfCs_len A
  have hlen : (A ++ (b, k, t) :: B).length = (A ++ (b, c, t) :: B).length := by simp
  refine ⟨by rw [pfCs_len], .inr ⟨g, cap, cur.setIfInBounds (A.length * 3 + 1) (.int .i64 k), by rw [hlen]; injection hv with _ e2 e3; rw [e2], hg, ?_, ?_, ?_, ?_, ?_⟩⟩
  · exact Go.Joins.block_setCell hh _
  · injection hv with _ _ e; rw [e, hlen]; exact hc
  · injection hv with _ _ e; rw [e]; exact hm
  · injection hv with _ _ e; rw [e, Array.size_setIfInBounds]; exact hs
  · rw [hlen, Array.toList_setIfInBounds, List.take_set, ht, pfCs_app, pfCs_app, List.set_append_right _ _ (by omega), hl, show A.length * 3 + 1 - A.length * 3 = 1 by omega]
    rfl

theorem PFAt.get {w : World} {a : Option Addr} {n c : Nat} {l : List PF} (h : PFAt w (.slice a n c) l) (j : Nat) (hj : j < l.length) : ∃ g off, a = some ⟨g, off, none⟩ ∧ g < w.heap.size ∧
    w.cell? ⟨g, off + j * 3, none⟩ = some (.int .u8 (l[j]).1) ∧ w.cell? ⟨g, off + j * 3 + 1, none⟩ = some (.int .i64 (l[j]).2.1) ∧ w.cell? ⟨g, off + j * 3 + 2, none⟩ = some (.string (l[j]).2.2) := by
  obtain ⟨a', cap, he, _, hc⟩ := h
  injection he with he
  subst he
  exact hc j hj
/-- A store into a block that came later than the fields. -/
theorem PFAt.past {w w2 : World} {v : Value} {l : List PF} {b o : Nat} {u : Value} (h : PFAt w v l) (h2 : PFAt w2 v l) (hb : w2.heap.size ≤ b) : PFAt (w.setCell ⟨b, o, none⟩ u) v l := by
  obtain ⟨a, cap, rfl, hl, hc⟩ := h
  refine ⟨a, cap, rfl, hl, fun j hj => ?_⟩
  obtain ⟨g, off, rfl, hg, h0, h1, h2'⟩ := hc j hj
  obtain ⟨g', off', he, hg', _⟩ := h2.get j hj
  injection he with he
  injection he with he1 _
  subst he1
  have hn : g ≠ b := by omega
  have q : ∀ o', (w.setCell ⟨b, o, none⟩ u).cell? ⟨g, o', none⟩ = w.cell? ⟨g, o', none⟩ := fun o' => by
    simp only [World.cell?, World.setCell]
    rw [Array.getElem?_modify, if_neg (fun e => hn e.symm)]
  exact ⟨g, off, rfl, by simpa [World.setCell] using hg, by rw [q]; exact h0, by rw [q]; exact h1, by rw [q]; exact h2'⟩
theorem PFRow.weak {base b2 : Nat} {w : World} {v : Value} {l : List PF} (h : PFRow base w v l) (hb : b2 ≤ base) : PFRow b2 w v l := by
  refine ⟨h.1, ?_⟩
  rcases h.2 with h | ⟨g, cap, cur, hv, hg, r⟩
  · exact .inl h
  · exact .inr ⟨g, cap, cur, hv, Nat.le_trans hb hg, r⟩

set_option maxRecDepth 100000 in
set_option maxHeartbeats 1000000 in
theorem clone_pf (v : Value) (l : List PF) (w : World) (hv : PFArg w v l) (hl : l.length ≤ 1100000) :
    Calls Tryd.prog 52 #[v] w fun e w' => ∃ v', e = .returned v' ∧ PFRow w.heap.size w' v' l ∧ Below w.heap.size w w' := by
  have q1 : ∀ (W : World) (a : Option Addr) (n c n' c' : Nat), (binOp .eql 23 (.slice a n c) (.slice none n' c')).run Tryd.prog W = .ok (.bool a.isNone) W := fun W a n c n' c' => Lib.run_eql_slice_nil W _ _ a n c n' c' Tryd.underlying23
  have HV := Lib.hid hv
  obtain ⟨_, a, cap, rfl, hn⟩ := hv
  cases a with
  | none =>
    obtain ⟨rfl, hl0⟩ := hn rfl
    have hnil : l = [] := List.eq_nil_of_length_eq_zero hl0
    subst hnil
    go_enter Tryd.func52, Tryd.ntmps52
    go_wp2_with fail
    go_ret
    exact ⟨_, rfl, PFRow.nil _ _, Below.refl _ _⟩
  | some p =>
    clear hn
    go_enter Tryd.func52, Tryd.ntmps52
    go_wp2_with (at_builtin; go_must (refine wpList_copy_pf rfl _ _ rfl _ rfl rfl _ l rfl HV.out (by omega) (Below.refl _ _) (Nat.le_refl _) ?_); intro v' w1 hr1 hB1)
    go_ret
    exact ⟨_, rfl, hr1, hB1⟩

set_option maxRecDepth 100000 in
set_option maxHeartbeats 4000000 in
theorem stretch_any (v : Value) (l : List PF) (s : ByteArray) (w : World) (hv : PFArg w v l) (hsz : PFsz l) (hs : s.size ≤ 1000000000000000) (hG : Gl w) :
    Calls Tryd.prog 20 #[v, .string s] w fun e w' => ∃ v', e = .returned (.tuple #[v', .int .i64 (dStr l s).2]) ∧ PFRow w.heap.size w' v' (dStr l s).1 ∧ Below w.heap.size w w' := by
  have HV := Lib.hid hv
  obtain ⟨_, va, vcap, rfl, _⟩ := hv
  have hlm := hsz.1
  have HPR := Lib.hid (fun W h g => dprint_any (.slice va l.length vcap) l W h hsz g)
  have hE0 : (dpPrint l).2 = 0 ∨ ((dpPrint l).2 != 0) = true := by by_cases h : (dpPrint l).2 = 0; exact .inl h; right; simpa using h
  have hsk := skel_any s w hs
  have HSK := Lib.hid (fun W => skel_any s W hs)
  have hds : dStr l s = if (dpPrint l).2 ≠ 0 then ([], (dpPrint l).2) else if (skel s).2.1 ≠ 0 then ([], 272) else (stretchR l (skel s).1, 0) := rfl
  have hps := skel_sk s
  have hinc := sk_inc s
  clear hsk
  generalize dpPrint l = P at *
  generalize skel s = r at *
  generalize dStr l s = D at *
  obtain ⟨P1, P2⟩ := P
  obtain ⟨x, E, A⟩ := r
  simp only at hE0 hds hps hinc
  rcases hE0 with rfl | hP2
  · by_cases hE : E = 0
    · subst hE
      have hD : D = (stretchR l x, 0) := by rw [hds, if_neg (by decide), if_neg (by decide)]
      subst hD
      have HI := Lib.hid (hinc rfl)
      have hxl := hps.1
      have HPS := Lib.hid hps
      have HS := Lib.hid hsz
      clear hds hinc hps
      go_enter Tryd.func20, Tryd.ntmps20
      go_wp2_with fail
      refine (HPR.out _ HV.out.1 hG).mono ?_
      rintro e w0 ⟨rfl, hB0⟩
      go_wp2_with fail
      refine (HSK.out _).mono ?_
      rintro e w1 ⟨⟨u, rfl, hrow⟩, hB1⟩
      have hat := hrow.at (by show x.length ≤ _; omega)
      obtain ⟨xa, xc, rfl⟩ := hrow.form
      have hB2 := hB0.trans (hB1.mono hB0.size)
      have sp := Blk.new w1 #[.int .i64 0, .int .i64 A] 26
      have hB3 := hB2.alloc hB2.size (.cells #[.int .i64 0, .int .i64 A] 26)
      have hat3 := hat.later ((Below.refl w1.heap.size w1).alloc (Nat.le_refl _) (.cells #[.int .i64 0, .int .i64 A] 26))
      have c0 := sp.cell 0
      simp at c0
      have hv3 := HV.out.later hB3
      clear hrow hat hB0 hB1 hB2
      go_wp2_with fail
      generalize w1.alloc (.cells #[.int .i64 0, .int .i64 A] 26) = w2 at *
      have HX2 := Lib.hid hat3
      refine (clone_pf _ l _ hv3 (by omega)).mono ?_
      rintro e w4 ⟨v4, rfl, hr4, hB4⟩
      have hat4 := hat3.later hB4
      have hz3 := hB3.size
      have hB5 := hB3.trans (hB4.mono hz3)
      have hr5 : PFRow w2.heap.size w4 v4 (cutL l x 0) := by rw [cut_start]; exact hr4
      obtain ⟨a4, c4, rfl⟩ := hr4.form
      clear c0 sp hB3 hat3 hv3 hr4 hB4
      go_wp2_with fail
      go_loopg [35] l.length (fun g s35 wr => ∃ i : Nat, s35 = .int .i64 (i : Int) ∧ i + g = l.length ∧ PFRow w2.heap.size wr (.slice a4 l.length c4) (cutL l x i) ∧ PFAt wr (.slice xa x.length xc) x ∧ Below w.heap.size w wr)
      case atStart => exact ⟨0, rfl, by omega, hr5, hat4, hB5⟩
      case round =>
        obtain ⟨i, rfl, hg, hrow, hxat, hB⟩ := hrel
        clear hr5 hat4 hB5
        by_cases hi : i < l.length
        · have hiI : (i : Int) < l.length := by omega
          rw [mid_start hi] at hrow
          obtain ⟨g4, c4', hv4, hgb, hgl, p0, p1, p2⟩ := PFRow.mid hrow (mid_head hi)
          injection hv4 with hv4 hl4 hc4
          clear hl4
          subst hv4 hc4
          have hfin := HS.out.2 l[i] (List.getElem_mem hi)
          have hme := mid_end (x := x) hi
          generalize hli : l[i] = f at *
          obtain ⟨b, c, t⟩ := f
          simp only at p0 p1 p2 hfin
          have hwr := hB.size
          have HME := Lib.hid hme
          clear hme hli
          have hi0 : (0 : Int) ≤ i := by omega
          go_wp2_with fail
          have fk := Blk.new wr #[.int .u8 b, .int .i64 c, .string t] 43
          have hB1 := hB.alloc hwr (.cells #[.int .u8 b, .int .i64 c, .string t] 43)
          have hrow1 := hrow.later ((Below.refl wr.heap.size wr).alloc (Nat.le_refl _) (.cells #[.int .u8 b, .int .i64 c, .string t] 43))
          have hxat1 := hxat.later ((Below.refl wr.heap.size wr).alloc (Nat.le_refl _) (.cells #[.int .u8 b, .int .i64 c, .string t] 43))
          have hz2 : w2.heap.size ≤ wr.heap.size := by omega
          clear hrow hxat hB p0 p1 p2
          obtain ⟨wo, rfl⟩ : ∃ wo : World, wo = wr := ⟨_, rfl⟩
          go_loopg [42] x.length (fun g s42 wi => ∃ k : Nat, s42 = .int .i64 (k : Int) ∧ k + g = x.length ∧ PFRow w2.heap.size wi (.slice (some ⟨g4, 0, none⟩) l.length c4) (midL l x i (strOne (x.take k) (b, c, t))) ∧ PFAt wi (.slice xa x.length xc) x ∧ Blk wi wo.heap.size #[.int .u8 b, .int .i64 c, .string t] ∧ Below w.heap.size w wi)
          case atStart => exact ⟨0, rfl, by omega, hrow1, hxat1, fk, hB1⟩
          case round =>
            obtain ⟨k, rfl, hk, hrow, hxat, fk, hB⟩ := hrel
            clear hrow1 hxat1 hB1
            by_cases hkx : k < x.length
            · have hkI : (k : Int) < x.length := by omega
              have hk0 : (0 : Int) ≤ k := by omega
              obtain ⟨xg, xo, rfl, hxg, q0, q1, q2⟩ := hxat.get k hkx
              have hno := fun h => str_no (f := (b, c, t)) hkx h
              have hsame := fun h => str_same (f := (b, c, t)) HI.out hkx h
              have hhit := fun h => str_hit (f := (b, c, t)) HI.out hkx h
              generalize x[k] = y at *
              obtain ⟨yb, yc, yt⟩ := y
              simp only at q0 q1 q2 hno hsame hhit
              have hyB := hB.alloc hB.size (.cells #[.int .u8 yb, .int .i64 yc, .string yt] 43)
              have hyA := (Below.refl wr.heap.size wr).alloc (Nat.le_refl _) (.cells #[.int .u8 yb, .int .i64 yc, .string yt] 43)
              have hrowA := hrow.later hyA
              have hxatA := hxat.later hyA
              have fkA := fk.on hyA
              have yk := Blk.new wr #[.int .u8 yb, .int .i64 yc, .string yt] 43
              have flt := fk.lt
              clear hrow hxat fk hyA
              by_cases hb : b = 0
              · have hbe : (b != 0) = false := by simp [hb]
                have hnew : strOne (x.take (k + 1)) (b, c, t) = strOne (x.take k) (b, c, t) := by rw [str_text hb, str_text hb]
                have HN := Lib.hid hnew
                clear hno hsame hhit hb hnew
                go_upto_region 14 with fail
                generalize wr.alloc (.cells #[.int .u8 yb, .int .i64 yc, .string yt] 43) = wj at *
                have c0 := fkA.cell 0
                simp at c0
                clear q0 q1 q2
                go_quiet (fail)
                have hBn := bdrN hyB nq
                have hrn := hrowA.later (bdrN (Below.refl wj.heap.size wj) nq)
                have hxn := hxatA.later (bdrN (Below.refl wj.heap.size wj) nq)
                have fkn := fkA.drewN nq
                go_wp2_with fail
                go_roundg (gk - 1)
                case rel => exact ⟨k + 1, by push_cast; rfl, by omega, by rw [HN.out]; exact hrn, hxn, fkn, hBn⟩
                case measure => omega
              · have hbe : (b != 0) = true := by simpa using hb
                by_cases hrk : rankB b = rankB yb
                · have hrI : ((rankB b : Int) == (rankB yb : Int)) = true := by simp [hrk]
                  have hs1 := hsame hrk
                  have hh1 := hhit hrk
                  rw [hrk] at hh1
                  cases hw : wordsB (rankB yb) c yc with
                  | true =>
                    have hnew : strOne (x.take (k + 1)) (b, c, t) = strOne (x.take k) (b, c, t) := by rw [hh1, hs1, if_neg (fun g => by rw [hw] at g; cases g.2)]
                    have HN := Lib.hid hnew
                    clear hno hsame hhit hb hnew hs1 hh1 hrk
                    go_upto_region 14 with fail
                    generalize wr.alloc (.cells #[.int .u8 yb, .int .i64 yc, .string yt] 43) = wj at *
                    have c0 := fkA.cell 0
                    have c1 := fkA.cell 1
                    have y0 := yk.cell 0
                    have y1 := yk.cell 1
                    simp at c0 c1 y0 y1
                    clear q0 q1 q2
                    go_quiet ((first | (go_at_call 23; exact Calls.quiet_of_same (rank_q _ _)) | (go_at_call 53; exact Calls.quiet_of_same (words_any _ _ _ _))))
                    have hBn := bdrN hyB nq
                    have hrn := hrowA.later (bdrN (Below.refl wj.heap.size wj) nq)
                    have hxn := hxatA.later (bdrN (Below.refl wj.heap.size wj) nq)
                    have fkn := fkA.drewN nq
                    go_wp2_with fail
                    go_roundg (gk - 1)
                    case rel => exact ⟨k + 1, by push_cast; rfl, by omega, by rw [HN.out]; exact hrn, hxn, fkn, hBn⟩
                    case measure => omega
                  | false =>
                    have hnew : strOne (x.take (k + 1)) (b, c, t) = (b, yc, t) := by rw [hh1, if_pos ⟨hb, hw⟩]
                    have HN := Lib.hid hnew
                    rw [hs1] at hrowA
                    clear hno hsame hhit hb hnew hs1 hh1 hrk
                    go_upto_region 14 with fail
                    generalize wr.alloc (.cells #[.int .u8 yb, .int .i64 yc, .string yt] 43) = wj at *
                    have c0 := fkA.cell 0
                    have c1 := fkA.cell 1
                    have y0 := yk.cell 0
                    have y1 := yk.cell 1
                    simp at c0 c1 y0 y1
                    clear q0 q1 q2
                    go_quiet ((first | (go_at_call 23; exact Calls.quiet_of_same (rank_q _ _)) | (go_at_call 53; exact Calls.quiet_of_same (words_any _ _ _ _))))
                    have hBn := bdrN hyB nq
                    have hrn := hrowA.later (bdrN (Below.refl wj.heap.size wj) nq)
                    have hxn := hxatA.later (bdrN (Below.refl wj.heap.size wj) nq)
                    have fkn := fkA.drewN nq
                    have yn := yk.drewN nq
                    have y1 := yn.cell 1
                    simp at y1
                    have hfr := hrn.frz (i * 3 + 1)
                    have p1 := PFRow.mid1 hrn (mid_head hi)
                    have hrs := hrn.count (mid_head hi) yc
                    have hxs := hxn.past (o := i * 3 + 1) (u := .int .i64 yc) HX2.out (b := g4) hgb
                    have fks := fkn.other g4 (i * 3 + 1) (.int .i64 yc) (by omega)
                    have hBs := hBn.setCell (p := ⟨g4, i * 3 + 1, none⟩) (by show w.heap.size ≤ g4; omega) (.int .i64 yc)
                    clear hrn hxn
                    go_wp2_with fail
                    go_roundg (gk - 1)
                    case rel => exact ⟨k + 1, by push_cast; rfl, by omega, by rw [HN.out]; exact hrs, hxs, fks, hBs⟩
                    case measure => omega
                · have hrI : ((rankB b : Int) == (rankB yb : Int)) = false := by simp; omega
                  have hnew : strOne (x.take (k + 1)) (b, c, t) = strOne (x.take k) (b, c, t) := hno hrk
                  have HN := Lib.hid hnew
                  clear hno hsame hhit hb hnew hrk
                  go_upto_region 14 with fail
                  generalize wr.alloc (.cells #[.int .u8 yb, .int .i64 yc, .string yt] 43) = wj at *
                  have c0 := fkA.cell 0
                  have c1 := fkA.cell 1
                  have y0 := yk.cell 0
                  have y1 := yk.cell 1
                  simp at c0 c1 y0 y1
                  clear q0 q1 q2
                  go_quiet ((go_at_call 23; exact Calls.quiet_of_same (rank_q _ _)))
                  have hBn := bdrN hyB nq
                  have hrn := hrowA.later (bdrN (Below.refl wj.heap.size wj) nq)
                  have hxn := hxatA.later (bdrN (Below.refl wj.heap.size wj) nq)
                  have fkn := fkA.drewN nq
                  go_wp2_with fail
                  go_roundg (gk - 1)
                  case rel => exact ⟨k + 1, by push_cast; rfl, by omega, by rw [HN.out]; exact hrn, hxn, fkn, hBn⟩
                  case measure => omega
            · have hkI : ¬ (k : Int) < x.length := by omega
              rw [List.take_of_length_le (by omega), HME.out] at hrow
              go_wp2_with fail
              go_roundg (l.length - (i + 1))
              case rel => exact ⟨i + 1, by push_cast; rfl, by omega, hrow, hxat, hB⟩
              case measure => omega
        · have hiI : ¬ (i : Int) < l.length := by omega
          have hie : i = l.length := by omega
          rw [cut_all hi] at hrow
          go_wp2_with fail
          go_ret2
          exact ⟨_, rfl, hrow.weak hz3, hB⟩
    · have hD : D = ([], 272) := by rw [hds, if_neg (by decide), if_pos hE]
      subst hD
      have hEb : (E != 0) = true := by simpa using hE
      clear hds hinc hps
      go_enter Tryd.func20, Tryd.ntmps20
      go_wp2_with fail
      refine (HPR.out _ HV.out.1 hG).mono ?_
      rintro e w0 ⟨rfl, hB0⟩
      go_wp2_with fail
      refine (HSK.out _).mono ?_
      rintro e w1 ⟨⟨u, rfl, hrow⟩, hB1⟩
      have hB2 := hB0.trans (hB1.mono hB0.size)
      have sp := Blk.new w1 #[.int .i64 E, .int .i64 A] 26
      have hB3 := hB2.alloc hB2.size (.cells #[.int .i64 E, .int .i64 A] 26)
      have c0 := sp.cell 0
      simp at c0
      go_wp2_with fail
      go_ret2
      exact ⟨_, rfl, PFRow.nil _ _, hB3⟩
  · have hD : D = ([], P2) := by rw [hds, if_pos (by simpa using hP2)]
    subst hD
    clear hds hinc hps
    go_enter Tryd.func20, Tryd.ntmps20
    go_wp2_with fail
    refine (HPR.out _ HV.out.1 hG).mono ?_
    rintro e w0 ⟨rfl, hB0⟩
    go_wp2_with fail
    go_ret2
    exact ⟨_, rfl, PFRow.nil _ _, hB0⟩
end Go.Proofs.YtbnhfjhhbgmhfaaDoor
