/-
  Rules for numbers: the walk of the closure that a relation is.
-/
import Derived.Test.YtgbemhehbhlgpaaGreatDoorPlF
namespace Go.Proofs.YtgbemhehbhlgpaaGreatDoor
open Go.RowKit Go.PlainAid

theorem eg_op {o : Int} (ho : isOp o) : ∀ args w, (callFunc (opFn o) args).run Tryz.prog w = .ok (.enter (opFn o) args) w := by
  rcases ho with rfl | rfl | rfl | rfl | rfl | rfl
  · exact enters_of Tryz.func90 (by kernel_rfl) rfl
  · exact enters_of Tryz.func91 (by kernel_rfl) rfl
  · exact enters_of Tryz.func92 (by kernel_rfl) rfl
  · exact enters_of Tryz.func93 (by kernel_rfl) rfl
  · exact enters_of Tryz.func94 (by kernel_rfl) rfl
  · exact enters_of Tryz.func95 (by kernel_rfl) rfl
/-- Three blocks are known whole, and below a mark all is as in w0. -/
structure H3 (B : Nat) (w0 : World) (b0 : Nat) (c0 : Array Value) (b1 : Nat) (c1 : Array Value) (b2 : Nat) (c2 : Array Value) (w' : World) : Prop where
  k0 : Blk w' b0 c0
  k1 : Blk w' b1 c1
  k2 : Blk w' b2 c2
  bel : Below B w0 w'
theorem H3.on {B : Nat} {w0 : World} {b0 : Nat} {c0 : Array Value} {b1 : Nat} {c1 : Array Value} {b2 : Nat} {c2 : Array Value} {w' w'' : World} (h : H3 B w0 b0 c0 b1 c1 b2 c2 w') (hB : Below w'.heap.size w' w'') (hz : B ≤ w0.heap.size) : H3 B w0 b0 c0 b1 c1 b2 c2 w'' :=
  ⟨h.k0.on hB, h.k1.on hB, h.k2.on hB, h.bel.trans (hB.mono (Nat.le_trans hz h.bel.size))⟩
theorem H3.drew {B : Nat} {w0 : World} {b0 : Nat} {c0 : Array Value} {b1 : Nat} {c1 : Array Value} {b2 : Nat} {c2 : Array Value} {w' : World} (h : H3 B w0 b0 c0 b1 c1 b2 c2 w') : H3 B w0 b0 c0 b1 c1 b2 c2 w'.drew :=
  ⟨h.k0.drew, h.k1.drew, h.k2.drew, h.bel.drew⟩
theorem H3.all {B : Nat} {w0 : World} {b0 : Nat} {c0 : Array Value} {b1 : Nat} {c1 : Array Value} {b2 : Nat} {c2 : Array Value} {w' : World} (h : H3 B w0 b0 c0 b1 c1 b2 c2 w') :
    (∀ o, w'.cell? ⟨b0, o, none⟩ = c0[o]?) ∧ (∀ o, w'.cell? ⟨b1, o, none⟩ = c1[o]?) ∧ (∀ o, w'.cell? ⟨b2, o, none⟩ = c2[o]?) ∧ Below B w0 w' := ⟨h.k0.cell, h.k1.cell, h.k2.cell, h.bel⟩
theorem mod_ns {x : Nat × Nat} (h : NS x) {b : Nat} (hb : 1 ≤ b) (hb2 : b < 1000000000) (w : World) (hP : PG w) :
    Calls Tryz.prog 68 #[.agg #[.bool false, .string (digs x.1), .int .i64 x.2], .int .i64 b] w fun e w' => e = .returned (.tuple #[.agg #[.bool false, .string (digs (mdD b x).1), .int .i64 (mdD b x).2], .int .i64 0]) ∧ Below w.heap.size w w' := by
  have c := mod_yes (neg := false) (ds := digs x.1) (k := x.2) h.right hb (by omega) w hP.1
  have hm := mdD_ns h b
  have e : modR (digs x.1) x.2 b = (false, digs (mdD b x).1, ((mdD b x).2 : Int), 0) := by
    unfold modR
    rw [dval_digs]
    unfold mdD at hm ⊢
    rw [if_neg (by omega)] at hm ⊢
    exact madeR_ns hm.1 hm.2
  rw [e] at c
  exact c

set_option maxRecDepth 100000 in
set_option maxHeartbeats 4000000 in
theorem rel1_any {neg : Bool} {ds : ByteArray} {k : Nat} (hr : rightB neg ds k = true) (o : Int) (b : Nat) (nt : Bool) (rs : List (Nat × Nat)) (v : Value) (ab bb lb nb : Nat) (W : World) (ho : isOp o) (hb : b < 1000000000)
    (hrs : ∀ r ∈ rs, r.1 < 1000000000 ∧ r.2 < 1000000000) (hl : rs.length ≤ 100000000) (kA : Blk W ab #[.func (.func (opFn o)) #[] #[]]) (kB : Blk W bb #[.int .i64 b]) (kL : Blk W lb #[v]) (kN : Blk W nb #[.bool nt]) (hv : GAt SpE W v rs) (hP : PG W) :
    Calls Tryz.prog 67 #[opsA ds k, .pointer (some ⟨ab, 0, none⟩), .pointer (some ⟨bb, 0, none⟩), .pointer (some ⟨lb, 0, none⟩), .pointer (some ⟨nb, 0, none⟩)] W fun e w' => e = .returned (.bool (rlH ds k ⟨o, b, nt, rs⟩)) ∧ Below W.heap.size W w' := by
  have hop := op_any hr o ho
  have hns := opD_ns hr o
  have eg := eg_op ho
  have hres : rlH ds k ⟨o, b, nt, rs⟩ = (inD rs (mdD b (opD o ds k)) != nt) := rfl
  rw [hres]
  rw [opsA_eq hr] at hop ⊢
  have hrs' := hrs
  clear hr hres
  generalize opD o ds k = x at *
  generalize opFn o = g at *
  generalize digs (dval ds / 10 ^ k) = D1 at *
  generalize digs (dval ds % 10 ^ k) = D2 at *
  generalize digs (opT' ds k) = D3 at *
  generalize opW ds k = wv at *
  have hB0 := (Below.refl W.heap.size W).alloc (Nat.le_refl _) (.cells #[.bool false, .string ds, .int .i64 k, .bool false, .string D1, .int .i64 0, .bool false, .string D2, .int .i64 0, .bool false, .string D3, .int .i64 0, .int .i64 k, .int .i64 wv] 70)
  have hc := hop _ (hP.on hB0)
  have a0 := kA.alloc (.cells #[.bool false, .string ds, .int .i64 k, .bool false, .string D1, .int .i64 0, .bool false, .string D2, .int .i64 0, .bool false, .string D3, .int .i64 0, .int .i64 k, .int .i64 wv] 70)
  have c0 := a0.cell 0
  simp at c0
  have HV := Lib.hid hv
  obtain ⟨va, vcap, rfl, _⟩ := hv
  have hid1 := Lib.hid hrs'
  clear a0 hop hrs hrs'
  by_cases hb0 : b = 0
  · have hbI : ¬ (0 : Int) < b := by omega
    have hmd : mdD b x = x := by unfold mdD; rw [if_pos hb0]
    rw [hmd]
    clear hmd hb0
    go_enter Tryz.func67, Tryz.ntmps67
    go_wp2_with (go_at_fn g; refine hc.mono ?_; rintro e w1 ⟨rfl, hB1⟩; have hB2 := hB0.trans (hB1.mono hB0.size); have c1 := (kB.on (hB2.alloc hB2.size (.cells #[.bool false, .string (digs x.1), .int .i64 x.2] 23))).cell 0; simp at c1)
    have hB3 := hB2.alloc hB2.size (.cells #[.bool false, .string (digs x.1), .int .i64 x.2] 23)
    have kD := Blk.new w1 #[.bool false, .string (digs x.1), .int .i64 x.2] 23
    have hin := fun (W' : World) (h : Below W.heap.size W W') => in_any x _ rs W' hns (HV.out.on h) hl hid1.out (hP.on h)
    have kL3 := kL.on hB3
    have kN3 := kN.on hB3
    have hlN : w1.heap.size ≠ nb := by have := kN.lt; have := hB2.size; omega
    generalize hD : digs x.1 = D at *
    have hS : H3 W.heap.size W w1.heap.size #[.bool false, .string D, .int .i64 x.2] lb #[.slice va rs.length vcap] nb #[.bool nt] _ := ⟨kD, kL3, kN3, hB3⟩
    clear hB0 hB1 hB2 hc c0 c1 kA kB kL kN kD kL3 kN3 hB3
    generalize w1.alloc (.cells #[.bool false, .string D, .int .i64 x.2] 23) = w3 at *
    obtain ⟨xn, xk⟩ := x
    simp only at hS hin
    go_region_held3 (fun w' => (∀ o, w'.cell? ⟨w1.heap.size, o, none⟩ = #[Value.bool false, Value.string D, Value.int .i64 (xk : Int)][o]?) ∧ (∀ o, w'.cell? ⟨lb, o, none⟩ = #[Value.slice va rs.length vcap][o]?) ∧ (∀ o, w'.cell? ⟨nb, o, none⟩ = #[Value.bool nt][o]?) ∧ Below W.heap.size W w')
      (first | exact hS4.all | exact hS.drew.all)
      (first
        | (go_at_call 69; refine (hin _ (by first | exact hS.drew.bel)).mono ?_; rintro e w4 ⟨rfl, hB4⟩; have hS4 := hS.drew.on hB4 (Nat.le_refl _)))
    have hE := hS4.bel
    clear hS4 hS hin
    go_wp2_with fail
    go_ret
    exact ⟨ret_bool (by rw [bne]), hE⟩
  · have hbI : (0 : Int) < b := by omega
    have hm := fun (W' : World) (h : Below W.heap.size W W') => mod_ns hns (b := b) (by omega) hb W' (hP.on h)
    have hns2 := mdD_ns hns b
    generalize mdD b x = y at *
    clear hb0
    go_enter Tryz.func67, Tryz.ntmps67
    go_wp2_with (go_at_fn g; refine hc.mono ?_; rintro e w1 ⟨rfl, hB1⟩; have hB2 := hB0.trans (hB1.mono hB0.size); have c1 := (kB.on (hB2.alloc hB2.size (.cells #[.bool false, .string (digs x.1), .int .i64 x.2] 23))).cell 0; simp at c1)
    have hB3 := hB2.alloc hB2.size (.cells #[.bool false, .string (digs x.1), .int .i64 x.2] 23)
    have kD := Blk.new w1 #[.bool false, .string (digs x.1), .int .i64 x.2] 23
    have hmc := hm _ hB3
    have kB3 := kB.on hB3
    have kL3 := kL.on hB3
    have kN3 := kN.on hB3
    have hin := fun (W' : World) (h : Below W.heap.size W W') => in_any y _ rs W' hns2 (HV.out.on h) hl hid1.out (hP.on h)
    have hlb := kL.lt
    have hnb := kN.lt
    have hz1 := hB2.size
    generalize digs x.1 = DX at *
    generalize digs y.1 = DY at *
    clear hB0 hB1 hB2 hc c0 kA kB kL kN hm
    refine hmc.mono ?_
    rintro e w5 ⟨rfl, hB5⟩
    have hB6 := hB3.trans (hB5.mono hB3.size)
    have kD5 := kD.on hB5
    have d0 := kD5.cell 0; have d1 := kD5.cell 1; have d2 := kD5.cell 2
    have f0 := kD5.free 0; have f1 := kD5.free 1; have f2 := kD5.free 2
    simp at d0 d1 d2
    have kD6 := ((kD5.set 0 (.bool false)).set 1 (.string DY)).set 2 (.int .i64 y.2)
    have kL6 := (((kL3.on hB5).other w1.heap.size 0 (.bool false) (by omega)).other w1.heap.size 1 (.string DY) (by omega)).other w1.heap.size 2 (.int .i64 y.2) (by omega)
    have kN6 := (((kN3.on hB5).other w1.heap.size 0 (.bool false) (by omega)).other w1.heap.size 1 (.string DY) (by omega)).other w1.heap.size 2 (.int .i64 y.2) (by omega)
    have hB7 := ((hB6.setCell (p := ⟨w1.heap.size, 0, none⟩) hz1 (.bool false)).setCell (p := ⟨w1.heap.size, 1, none⟩) hz1 (.string DY)).setCell (p := ⟨w1.heap.size, 2, none⟩) hz1 (.int .i64 y.2)
    have hS : H3 W.heap.size W w1.heap.size #[.bool false, .string DY, .int .i64 y.2] lb #[.slice va rs.length vcap] nb #[.bool nt] _ := ⟨kD6, kL6, kN6, hB7⟩
    clear hB3 hB5 hB6 hB7 kD kD5 kD6 kL3 kL6 kN3 kN6 kB3 hmc
    go_upto_region 4 with fail
    clear d0 d1 d2 f0 f1 f2
    generalize ((w5.setCell ⟨w1.heap.size, 0, none⟩ (.bool false)).setCell ⟨w1.heap.size, 1, none⟩ (.string DY)).setCell ⟨w1.heap.size, 2, none⟩ (.int .i64 y.2) = w6 at *
    obtain ⟨yn, yk⟩ := y
    simp only at hS hin
    go_region_held3 (fun w' => (∀ o, w'.cell? ⟨w1.heap.size, o, none⟩ = #[Value.bool false, Value.string DY, Value.int .i64 (yk : Int)][o]?) ∧ (∀ o, w'.cell? ⟨lb, o, none⟩ = #[Value.slice va rs.length vcap][o]?) ∧ (∀ o, w'.cell? ⟨nb, o, none⟩ = #[Value.bool nt][o]?) ∧ Below W.heap.size W w')
      (first | exact hS4.all | exact hS.drew.all)
      (first
        | (go_at_call 69; refine (hin _ (by first | exact hS.drew.bel)).mono ?_; rintro e w4 ⟨rfl, hB4⟩; have hS4 := hS.drew.on hB4 (Nat.le_refl _)))
    have hE := hS4.bel
    clear hS4 hS hin
    go_wp2_with fail
    go_ret
    exact ⟨ret_bool (by rw [bne]), hE⟩
end Go.Proofs.YtgbemhehbhlgpaaGreatDoor
