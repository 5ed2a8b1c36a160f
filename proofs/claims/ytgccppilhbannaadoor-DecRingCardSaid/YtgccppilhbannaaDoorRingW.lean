/-
  The walk of DecRing.
-/
import Derived.Test.YtgccppilhbannaaDoorRingP
import Derived.Test.YtgccppilhbannaaDoorSumsW
namespace Go.Proofs.YtgccppilhbannaaDoor
open Go.RowKit Go.PlainAid

set_option maxRecDepth 100000 in
set_option maxHeartbeats 8000000 in
theorem decRing_walk (n1 : Bool) (d1 : ByteArray) (k1 : Int) (n2 : Bool) (d2 : ByteArray) (k2 : Int) (n3 : Bool) (d3 : ByteArray) (k3 : Int) (w : World) :
    Calls Tryd.prog 7 #[.agg #[.bool n1, .string d1, .int .i64 k1], .agg #[.bool n2, .string d2, .int .i64 k2], .agg #[.bool n3, .string d3, .int .i64 k3]] w fun e w' => e = .returned (.bool true) ∧ Below w.heap.size w w' := by
  have c1 := fun W => add_tot n1 d1 k1 n2 d2 k2 W
  have c2 := fun W => add_tot n2 d2 k2 n3 d3 k3 W
  have c3 := fun W => mul_tot n1 d1 k1 n2 d2 k2 W
  have c4 := fun W => mul_tot n2 d2 k2 n1 d1 k1 W
  rw [mulT_comm n2 d2 k2 n1 d1 k1] at c4
  obtain ⟨AB, hAB⟩ : ∃ r, addT n1 d1 k1 n2 d2 k2 = r := ⟨_, rfl⟩
  obtain ⟨BC, hBC⟩ : ∃ r, addT n2 d2 k2 n3 d3 k3 = r := ⟨_, rfl⟩
  obtain ⟨P, hP⟩ : ∃ r, mulT n1 d1 k1 n2 d2 k2 = r := ⟨_, rfl⟩
  have c5 := fun W => add_tot AB.1 AB.2.1 AB.2.2.1 n3 d3 k3 W
  have c6 := fun W => add_tot n1 d1 k1 BC.1 BC.2.1 BC.2.2.1 W
  have c7 := fun W => sub_tot AB.1 AB.2.1 AB.2.2.1 n2 d2 k2 W
  have c8 := fun W => mul_tot P.1 P.2.1 P.2.2.1 n3 d3 k3 W
  have c9 := fun W => mul_tot n2 d2 k2 n3 d3 k3 W
  obtain ⟨X, hX⟩ : ∃ r, addT AB.1 AB.2.1 AB.2.2.1 n3 d3 k3 = r := ⟨_, rfl⟩
  obtain ⟨Y, hY⟩ : ∃ r, addT n1 d1 k1 BC.1 BC.2.1 BC.2.2.1 = r := ⟨_, rfl⟩
  obtain ⟨Q, hQ⟩ : ∃ r, subT AB.1 AB.2.1 AB.2.2.1 n2 d2 k2 = r := ⟨_, rfl⟩
  obtain ⟨L, hL⟩ : ∃ r, mulT P.1 P.2.1 P.2.2.1 n3 d3 k3 = r := ⟨_, rfl⟩
  obtain ⟨M, hM⟩ : ∃ r, mulT n2 d2 k2 n3 d3 k3 = r := ⟨_, rfl⟩
  have c11 := fun W => mul_tot n1 d1 k1 M.1 M.2.1 M.2.2.1 W
  have hXY : AB.2.2.2 = 0 → BC.2.2.2 = 0 → X = Y := fun e f => by rw [← hX, ← hY]; exact ring_add hAB hBC e f
  have hR : P.2.2.2 = 0 → M.2.2.2 = 0 → mulT n1 d1 k1 M.1 M.2.1 M.2.2.1 = L := fun e f => by rw [ring_mul hP hM e f]; exact hL
  have c10 : AB.2.2.2 = 0 → Q.2.2.2 = 0 → ∀ W, Calls Tryd.prog 30 #[.agg #[.bool Q.1, .string Q.2.1, .int .i64 Q.2.2.1], .agg #[.bool n1, .string d1, .int .i64 k1]] W fun e w' => e = .returned (.tuple #[.int .i64 0, .int .i64 0]) ∧ Below W.heap.size W w' := fun e f W => ring_back hAB e hQ f W
  rw [hAB] at c1
  rw [hBC] at c2
  rw [hP] at c3 c4
  rw [hX] at c5
  rw [hY] at c6
  rw [hQ] at c7
  rw [hL] at c8
  rw [hM] at c9
  have HXY := Lib.hid hXY; have HR := Lib.hid hR; have HC10 := Lib.hid c10
  clear hAB hBC hP hX hY hQ hL hM hXY hR c10
  go_enter Tryd.func7, Tryd.ntmps7
  go_wp2_with fail
  refine (wakes_any _).mono ?_
  rintro e w1 ⟨rfl, hB1⟩
  have ka := (((Blk.new w _ _).alloc _).alloc _).on hB1
  have kb := ((Blk.new' (w.alloc _) _ _ (w.heap.size + 1) (by simp)).alloc _).on hB1
  have kc := (Blk.new' ((w.alloc _).alloc _) _ _ (w.heap.size + 2) (by simp)).on hB1
  have hBw := ((((Below.refl w.heap.size w).alloc (Nat.le_refl _) _).alloc (by simp) _).alloc (by simp; omega) _).trans (hB1.mono (by simp; omega))
  clear hB1
  have ca := ka.cell
  have la := ka.lt
  have cb := kb.cell
  have lb := kb.lt
  go_wp2_with fail
  refine (c1 _).mono ?_
  rintro e w2 ⟨rfl, hB⟩
  have ka := ka.on hB
  have kb := kb.on hB
  have kc := kc.on hB
  have hBw := hBw.trans (hB.mono hBw.size)
  clear hB ca la cb lb
  have cb := kb.cell
  have lb := kb.lt
  have cc := kc.cell
  have lc := kc.lt
  go_wp2_with fail
  refine (c2 _).mono ?_
  rintro e w3 ⟨rfl, hB⟩
  have kab := (Blk.new w2 #[Value.bool AB.1, .string AB.2.1, .int .i64 AB.2.2.1] 23).on hB
  have ka := (ka.alloc _).on hB
  have kb := (kb.alloc _).on hB
  have kc := (kc.alloc _).on hB
  have hBw := (hBw.alloc hBw.size _).trans (hB.mono (by have := hBw.size; simp; omega))
  clear hB cb lb cc lc
  have ca := ka.cell
  have la := ka.lt
  have cb := kb.cell
  have lb := kb.lt
  go_wp2_with fail
  refine (c3 _).mono ?_
  rintro e w4 ⟨rfl, hB⟩
  have kbc := (Blk.new w3 #[Value.bool BC.1, .string BC.2.1, .int .i64 BC.2.2.1] 23).on hB
  have ka := (ka.alloc _).on hB
  have kb := (kb.alloc _).on hB
  have kc := (kc.alloc _).on hB
  have kab := (kab.alloc _).on hB
  have hBw := (hBw.alloc hBw.size _).trans (hB.mono (by have := hBw.size; simp; omega))
  clear hB ca la cb lb
  have ca := ka.cell
  have la := ka.lt
  have cb := kb.cell
  have lb := kb.lt
  go_wp2_with fail
  refine (c4 _).mono ?_
  rintro e w5 ⟨rfl, hB⟩
  have kp := (Blk.new w4 #[Value.bool P.1, .string P.2.1, .int .i64 P.2.2.1] 23).on hB
  have ka := (ka.alloc _).on hB
  have kb := (kb.alloc _).on hB
  have kc := (kc.alloc _).on hB
  have kab := (kab.alloc _).on hB
  have kbc := (kbc.alloc _).on hB
  have hBw := (hBw.alloc hBw.size _).trans (hB.mono (by have := hBw.size; simp; omega))
  clear hB ca la cb lb
  clear c1 c2 c3 c4
  by_cases hE : AB.2.2.2 = 0
  case neg =>
    go_wp2_with fail
    go_ret
    exact ⟨by first | rfl | (simp; done), hBw.alloc hBw.size _⟩
  by_cases hF : BC.2.2.2 = 0
  case neg =>
    go_wp2_with fail
    go_ret
    exact ⟨by first | rfl | (simp; done), hBw.alloc hBw.size _⟩
  by_cases hG : P.2.2.2 = 0
  case neg =>
    go_wp2_with fail
    go_ret
    exact ⟨by first | rfl | (simp; done), hBw.alloc hBw.size _⟩
  obtain rfl := HXY.out hE hF
  have cab := kab.cell
  have lab := kab.lt
  have cc := kc.cell
  have lc := kc.lt
  go_wp2_with fail
  refine (c5 _).mono ?_
  rintro e w6 ⟨rfl, hB⟩
  have kq := (Blk.new w5 #[Value.bool P.1, .string P.2.1, .int .i64 P.2.2.1] 23).on hB
  have ka := (ka.alloc _).on hB
  have kb := (kb.alloc _).on hB
  have kc := (kc.alloc _).on hB
  have kab := (kab.alloc _).on hB
  have kbc := (kbc.alloc _).on hB
  have kp := (kp.alloc _).on hB
  have hBw := (hBw.alloc hBw.size _).trans (hB.mono (by have := hBw.size; simp; omega))
  clear hB cab lab cc lc
  have ca := ka.cell
  have la := ka.lt
  have cbc := kbc.cell
  have lbc := kbc.lt
  go_wp2_with fail
  refine (c6 _).mono ?_
  rintro e w7 ⟨rfl, hB⟩
  have kx := (Blk.new w6 #[Value.bool X.1, .string X.2.1, .int .i64 X.2.2.1] 23).on hB
  have ka := (ka.alloc _).on hB
  have kb := (kb.alloc _).on hB
  have kc := (kc.alloc _).on hB
  have kab := (kab.alloc _).on hB
  have kbc := (kbc.alloc _).on hB
  have kp := (kp.alloc _).on hB
  have kq := (kq.alloc _).on hB
  have hBw := (hBw.alloc hBw.size _).trans (hB.mono (by have := hBw.size; simp; omega))
  clear hB ca la cbc lbc
  have cab := kab.cell
  have lab := kab.lt
  have cb := kb.cell
  have lb := kb.lt
  go_wp2_with fail
  refine (c7 _).mono ?_
  rintro e w8 ⟨rfl, hB⟩
  have ky := (Blk.new w7 #[Value.bool X.1, .string X.2.1, .int .i64 X.2.2.1] 23).on hB
  have ka := (ka.alloc _).on hB
  have kb := (kb.alloc _).on hB
  have kc := (kc.alloc _).on hB
  have kab := (kab.alloc _).on hB
  have kbc := (kbc.alloc _).on hB
  have kp := (kp.alloc _).on hB
  have kq := (kq.alloc _).on hB
  have kx := (kx.alloc _).on hB
  have hBw := (hBw.alloc hBw.size _).trans (hB.mono (by have := hBw.size; simp; omega))
  clear hB cab lab cb lb
  have cp := kp.cell
  have lp := kp.lt
  have cc := kc.cell
  have lc := kc.lt
  go_wp2_with fail
  refine (c8 _).mono ?_
  rintro e w9 ⟨rfl, hB⟩
  have kbk := (Blk.new w8 #[Value.bool Q.1, .string Q.2.1, .int .i64 Q.2.2.1] 23).on hB
  have ka := (ka.alloc _).on hB
  have kb := (kb.alloc _).on hB
  have kc := (kc.alloc _).on hB
  have kab := (kab.alloc _).on hB
  have kbc := (kbc.alloc _).on hB
  have kp := (kp.alloc _).on hB
  have kq := (kq.alloc _).on hB
  have kx := (kx.alloc _).on hB
  have ky := (ky.alloc _).on hB
  have hBw := (hBw.alloc hBw.size _).trans (hB.mono (by have := hBw.size; simp; omega))
  clear hB cp lp cc lc
  have cb := kb.cell
  have lb := kb.lt
  have cc := kc.cell
  have lc := kc.lt
  go_wp2_with fail
  refine (c9 _).mono ?_
  rintro e w10 ⟨rfl, hB⟩
  have kl := (Blk.new w9 #[Value.bool L.1, .string L.2.1, .int .i64 L.2.2.1] 23).on hB
  have ka := (ka.alloc _).on hB
  have kb := (kb.alloc _).on hB
  have kc := (kc.alloc _).on hB
  have kab := (kab.alloc _).on hB
  have kbc := (kbc.alloc _).on hB
  have kp := (kp.alloc _).on hB
  have kq := (kq.alloc _).on hB
  have kx := (kx.alloc _).on hB
  have ky := (ky.alloc _).on hB
  have kbk := (kbk.alloc _).on hB
  have hBw := (hBw.alloc hBw.size _).trans (hB.mono (by have := hBw.size; simp; omega))
  clear hB cb lb cc lc
  clear c5 c6 c7 c8 c9
  by_cases hQ : Q.2.2.2 = 0
  case pos =>
    have c10 := HC10.out hE hQ
    have cp := kp.cell
    have lp := kp.lt
    have cq := kq.cell
    have lq := kq.lt
    have cx := kx.cell
    have lx := kx.lt
    have cy := ky.cell
    have ly := ky.lt
    have cbk := kbk.cell
    have lbk := kbk.lt
    have ca := ka.cell
    have la := ka.lt
    go_wp2_with fail
    refine (c10 _).mono ?_
    rintro e w11 ⟨rfl, hB⟩
    have km := (Blk.new w10 #[Value.bool M.1, .string M.2.1, .int .i64 M.2.2.1] 23).on hB
    have ka := (ka.alloc _).on hB
    have kb := (kb.alloc _).on hB
    have kc := (kc.alloc _).on hB
    have kab := (kab.alloc _).on hB
    have kbc := (kbc.alloc _).on hB
    have kp := (kp.alloc _).on hB
    have kq := (kq.alloc _).on hB
    have kx := (kx.alloc _).on hB
    have ky := (ky.alloc _).on hB
    have kbk := (kbk.alloc _).on hB
    have kl := (kl.alloc _).on hB
    have hBw := (hBw.alloc hBw.size _).trans (hB.mono (by have := hBw.size; simp; omega))
    clear hB cp lp cq lq cx lx cy ly cbk lbk ca la
    by_cases hL : L.2.2.2 = 0
    case neg =>
      go_wp2_with fail
      go_ret
      exact ⟨by first | rfl | (simp; done), hBw⟩
    by_cases hM : M.2.2.2 = 0
    case neg =>
      go_wp2_with fail
      go_ret
      exact ⟨by first | rfl | (simp; done), hBw⟩
    have c11 := c11
    rw [HR.out hG hM] at c11
    have ca := ka.cell
    have la := ka.lt
    have cm := km.cell
    have lm := km.lt
    go_wp2_with fail
    refine (c11 _).mono ?_
    rintro e w12 ⟨rfl, hB⟩
    have ka := ka.on hB
    have kb := kb.on hB
    have kc := kc.on hB
    have kab := kab.on hB
    have kbc := kbc.on hB
    have kp := kp.on hB
    have kq := kq.on hB
    have kx := kx.on hB
    have ky := ky.on hB
    have kbk := kbk.on hB
    have kl := kl.on hB
    have km := km.on hB
    have hBw := hBw.trans (hB.mono hBw.size)
    clear hB ca la cm lm
    have cl := kl.cell
    have ll := kl.lt
    go_wp2_with fail
    go_ret
    exact ⟨by first | rfl | (simp; done), hBw.alloc hBw.size _⟩
  case neg =>
    by_cases hL : L.2.2.2 = 0
    case neg =>
      have cp := kp.cell
      have lp := kp.lt
      have cq := kq.cell
      have lq := kq.lt
      have cx := kx.cell
      have lx := kx.lt
      have cy := ky.cell
      have ly := ky.lt
      go_wp2_with fail
      go_ret
      exact ⟨by first | rfl | (simp; done), hBw.alloc hBw.size _⟩
    by_cases hM : M.2.2.2 = 0
    case neg =>
      have cp := kp.cell
      have lp := kp.lt
      have cq := kq.cell
      have lq := kq.lt
      have cx := kx.cell
      have lx := kx.lt
      have cy := ky.cell
      have ly := ky.lt
      go_wp2_with fail
      go_ret
      exact ⟨by first | rfl | (simp; done), hBw.alloc hBw.size _⟩
    have c11 := c11
    rw [HR.out hG hM] at c11
    have cp := kp.cell
    have lp := kp.lt
    have cq := kq.cell
    have lq := kq.lt
    have cx := kx.cell
    have lx := kx.lt
    have cy := ky.cell
    have ly := ky.lt
    have ca := ka.cell
    have la := ka.lt
    go_wp2_with fail
    refine (c11 _).mono ?_
    rintro e w11 ⟨rfl, hB⟩
    have km := (Blk.new w10 #[Value.bool M.1, .string M.2.1, .int .i64 M.2.2.1] 23).on hB
    have ka := (ka.alloc _).on hB
    have kb := (kb.alloc _).on hB
    have kc := (kc.alloc _).on hB
    have kab := (kab.alloc _).on hB
    have kbc := (kbc.alloc _).on hB
    have kp := (kp.alloc _).on hB
    have kq := (kq.alloc _).on hB
    have kx := (kx.alloc _).on hB
    have ky := (ky.alloc _).on hB
    have kbk := (kbk.alloc _).on hB
    have kl := (kl.alloc _).on hB
    have hBw := (hBw.alloc hBw.size _).trans (hB.mono (by have := hBw.size; simp; omega))
    clear hB cp lp cq lq cx lx cy ly ca la
    have cl := kl.cell
    have ll := kl.lt
    go_wp2_with fail
    go_ret
    exact ⟨by first | rfl | (simp; done), hBw.alloc hBw.size _⟩
end Go.Proofs.YtgccppilhbannaaDoor
