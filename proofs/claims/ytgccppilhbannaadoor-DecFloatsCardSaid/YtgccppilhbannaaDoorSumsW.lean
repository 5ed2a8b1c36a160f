/-
  The walk of DecSums.
-/
import Derived.Test.YtgccppilhbannaaDoorRefMul
namespace Go.Proofs.YtgccppilhbannaaDoor
open Go.RowKit Go.PlainAid

theorem Hold2.set {B : Nat} {w0 : World} {b0 : Nat} {c0 : Array Value} {b1 : Nat} {c1 : Array Value} {w' : World} (h : Hold2 B w0 b0 c0 b1 c1 w') (c i : Nat) (v : Value) (h0 : b0 ≠ c) (h1 : b1 ≠ c) (hB : B ≤ c) : Hold2 B w0 b0 c0 b1 c1 (w'.setCell ⟨c, i, none⟩ v) := by
  obtain ⟨a, b, c', d, e, f, g, i', j, k⟩ := h
  exact ⟨(j.other c i v h0).cell, (j.other c i v h0).free, (k.other c i v h1).cell, (k.other c i v h1).free, e.setCell hB _, by simpa [World.setCell] using f, by simpa [World.setCell] using g, by simpa [World.setCell] using i', j.other c i v h0, k.other c i v h1⟩

set_option maxRecDepth 100000 in
set_option maxHeartbeats 1000000 in
theorem isSame (n : Bool) (s : ByteArray) (c e : Int) (w : World) :
    Calls Tryd.prog 25 #[.agg #[.bool n, .string s, .int .i64 c], .int .i64 e, .agg #[.bool n, .string s, .int .i64 c], .int .i64 e] w fun e w' => e = .returned (.bool true) ∧ Below w.heap.size w w' := by
  go_enter Tryd.func25, Tryd.ntmps25
  go_wp2_with fail
  go_ret
  exact ⟨by simp, ((Below.refl _ _).alloc (Nat.le_refl _) _).alloc (by simp) _⟩
theorem rightIs {neg : Bool} {ds : ByteArray} {sc : Int} {b : Bool} (hr : rightB neg ds sc = b) (w : World) :
    Calls Tryd.prog 16 #[.agg #[.bool neg, .string ds, .int .i64 sc]] w fun e w' => e = .returned (.bool b) ∧ Below w.heap.size w w' := by
  have h := rRight_any neg ds sc w
  rw [hr] at h
  exact h

set_option maxRecDepth 100000 in
set_option maxHeartbeats 4000000 in
theorem sums_no {n1 : Bool} {d1 : ByteArray} {k1 : Int} {n2 : Bool} {d2 : ByteArray} {k2 : Int} (h : rightB n1 d1 k1 = false ∨ rightB n2 d2 k2 = false) (w : World) :
    Calls Tryd.prog 6 #[.agg #[.bool n1, .string d1, .int .i64 k1], .agg #[.bool n2, .string d2, .int .i64 k2]] w fun e w' => e = .returned (.bool true) ∧ Below w.heap.size w w' := by
  have c1 := fun W => add_no h W
  have c2 := fun W => sub_no h W
  have c3 := fun W => mul_no h W
  have c4 := fun W => compare_no h W
  have hcase : rightB n1 d1 k1 = false ∨ (rightB n1 d1 k1 = true ∧ rightB n2 d2 k2 = false) := by
    cases hr : rightB n1 d1 k1 with
    | false => exact .inl rfl
    | true => rcases h with h | h; { rw [hr] at h; cases h }; exact .inr ⟨rfl, h⟩
  clear h
  have i1 := fun W => isSame false ⟨#[]⟩ 0 2 W
  go_enter Tryd.func6, Tryd.ntmps6
  go_wp2_with fail
  refine (wakes_any _).mono ?_
  rintro e w1 ⟨rfl, hB1⟩
  have ka := ((Blk.new w _ _).alloc _).on hB1
  have kb := (Blk.new' (w.alloc _) _ _ (w.heap.size + 1) (by simp)).on hB1
  have hBw := (((Below.refl w.heap.size w).alloc (Nat.le_refl _) _).alloc (by simp) _).trans (hB1.mono (by simp; omega))
  have ca := ka.cell
  have cb := kb.cell
  clear hB1
  go_wp2_with fail
  refine (c1 _).mono ?_
  rintro e w2 ⟨rfl, hB2⟩
  have ka := ka.on hB2
  have kb := kb.on hB2
  have hBw := hBw.trans (hB2.mono hBw.size)
  clear hB2 ca cb c1
  have ca := ka.cell
  have cb := kb.cell
  have la := ka.lt
  have lb := kb.lt
  go_wp2_with fail
  refine (c2 _).mono ?_
  rintro e w3 ⟨rfl, hB3⟩
  have ks := (Blk.new w2 _ _).on hB3
  have ka := (ka.alloc _).on hB3
  have kb := (kb.alloc _).on hB3
  have hBw := (hBw.alloc hBw.size _).trans (hB3.mono (by have := hBw.size; simp; omega))
  clear hB3 ca cb la lb c2
  have ca := ka.cell
  have cb := kb.cell
  have la := ka.lt
  have lb := kb.lt
  go_wp2_with fail
  refine (c3 _).mono ?_
  rintro e w4 ⟨rfl, hB4⟩
  have kt := (Blk.new w3 _ _).on hB4
  have ks := (ks.alloc _).on hB4
  have ka := (ka.alloc _).on hB4
  have kb := (kb.alloc _).on hB4
  have hBw := (hBw.alloc hBw.size _).trans (hB4.mono (by have := hBw.size; simp; omega))
  clear hB4 ca cb la lb c3
  have ca := ka.cell
  have cb := kb.cell
  have la := ka.lt
  have lb := kb.lt
  go_wp2_with fail
  refine (c4 _).mono ?_
  rintro e w5 ⟨rfl, hB5⟩
  have kp := (Blk.new w4 _ _).on hB5
  have kt := (kt.alloc _).on hB5
  have ks := (ks.alloc _).on hB5
  have ka := (ka.alloc _).on hB5
  have kb := (kb.alloc _).on hB5
  have hBw := (hBw.alloc hBw.size _).trans (hB5.mono (by have := hBw.size; simp; omega))
  clear hB5 ca cb la lb c4
  have ca := ka.cell
  have cb := kb.cell
  have hr : ∃ w6, Below w5.heap.size w5 w6 ∧ True := ⟨w5, Below.refl _ _, trivial⟩
  clear hr
  rcases hcase with hr | ⟨hr, hr2⟩
  · have hrr := fun W => rightIs hr W
    clear hr
    go_wp2_with fail
    refine (hrr _).mono ?_
    rintro e w6 ⟨rfl, hB6⟩
    have kp := kp.on hB6
    have kt := kt.on hB6
    have ks := ks.on hB6
    have hBw := hBw.trans (hB6.mono hBw.size)
    clear hB6 ca cb hrr ka kb
    have kn := Blk.new w6 #[Value.bool false, .string ⟨#[]⟩, .int .i64 0] 23
    have ks := ks.alloc (.cells #[Value.bool false, .string ⟨#[]⟩, .int .i64 0] 23)
    have kt := kt.alloc (.cells #[Value.bool false, .string ⟨#[]⟩, .int .i64 0] 23)
    have kp := kp.alloc (.cells #[Value.bool false, .string ⟨#[]⟩, .int .i64 0] 23)
    have hBw := hBw.alloc hBw.size (.cells #[Value.bool false, .string ⟨#[]⟩, .int .i64 0] 23)
    have cs := ks.cell
    have cn := kn.cell
    have lf := ks.lt
    go_wp2_with fail
    refine (i1 _).mono ?_
    rintro e w7 ⟨rfl, hB7⟩
    have kt := kt.on hB7
    have kp := kp.on hB7
    have kn := kn.on hB7
    have hBw := hBw.trans (hB7.mono hBw.size)
    clear hB7 cs cn
    have ct := kt.cell
    have cn := kn.cell
    go_wp2_with fail
    refine (i1 _).mono ?_
    rintro e w8 ⟨rfl, hB8⟩
    have kp := kp.on hB8
    have kn := kn.on hB8
    have hBw := hBw.trans (hB8.mono hBw.size)
    clear hB8 ct cn
    have cp := kp.cell
    have cn := kn.cell
    go_wp2_with fail
    refine (i1 _).mono ?_
    rintro e w9 ⟨rfl, hB9⟩
    have hBw := hBw.trans (hB9.mono hBw.size)
    clear hB9 cp cn
    go_wp2_with fail
    go_ret
    exact ⟨rfl, hBw⟩
  · have hrr := fun W => rightIs hr W
    have hrr2 := fun W => rightIs hr2 W
    clear hr hr2
    go_wp2_with fail
    refine (hrr _).mono ?_
    rintro e w6 ⟨rfl, hB6⟩
    have kp := kp.on hB6
    have kt := kt.on hB6
    have ks := ks.on hB6
    have kb := kb.on hB6
    have hBw := hBw.trans (hB6.mono hBw.size)
    clear hB6 ca cb hrr ka
    have cb := kb.cell
    go_wp2_with fail
    refine (hrr2 _).mono ?_
    rintro e w6' ⟨rfl, hB6⟩
    have kp := kp.on hB6
    have kt := kt.on hB6
    have ks := ks.on hB6
    have hBw := hBw.trans (hB6.mono hBw.size)
    clear hB6 cb hrr2 kb
    have kn := Blk.new w6' #[Value.bool false, .string ⟨#[]⟩, .int .i64 0] 23
    have ks := ks.alloc (.cells #[Value.bool false, .string ⟨#[]⟩, .int .i64 0] 23)
    have kt := kt.alloc (.cells #[Value.bool false, .string ⟨#[]⟩, .int .i64 0] 23)
    have kp := kp.alloc (.cells #[Value.bool false, .string ⟨#[]⟩, .int .i64 0] 23)
    have hBw := hBw.alloc hBw.size (.cells #[Value.bool false, .string ⟨#[]⟩, .int .i64 0] 23)
    have cs := ks.cell
    have cn := kn.cell
    have lf := ks.lt
    go_wp2_with fail
    refine (i1 _).mono ?_
    rintro e w7 ⟨rfl, hB7⟩
    have kt := kt.on hB7
    have kp := kp.on hB7
    have kn := kn.on hB7
    have hBw := hBw.trans (hB7.mono hBw.size)
    clear hB7 cs cn
    have ct := kt.cell
    have cn := kn.cell
    go_wp2_with fail
    refine (i1 _).mono ?_
    rintro e w8 ⟨rfl, hB8⟩
    have kp := kp.on hB8
    have kn := kn.on hB8
    have hBw := hBw.trans (hB8.mono hBw.size)
    clear hB8 ct cn
    have cp := kp.cell
    have cn := kn.cell
    go_wp2_with fail
    refine (i1 _).mono ?_
    rintro e w9 ⟨rfl, hB9⟩
    have hBw := hBw.trans (hB9.mono hBw.size)
    clear hB9 cp cn
    go_wp2_with fail
    go_ret
    exact ⟨rfl, hBw⟩

set_option maxRecDepth 100000 in
set_option maxHeartbeats 8000000 in
theorem sums_yes {n1 : Bool} {d1 : ByteArray} {k1 : Nat} {n2 : Bool} {d2 : ByteArray} {k2 : Nat} (h1 : rightB n1 d1 k1 = true) (h2 : rightB n2 d2 k2 = true) (w : World) :
    Calls Tryd.prog 6 #[.agg #[.bool n1, .string d1, .int .i64 k1], .agg #[.bool n2, .string d2, .int .i64 k2]] w fun e w' => e = .returned (.bool true) ∧ Below w.heap.size w w' := by
  have c1 := fun W => add_yes h1 h2 W
  have c2 := fun W => sub_yes h1 h2 W
  have c3 := fun W => mul_yes h1 h2 W
  have c4 := fun W => compare_yes h1 h2 W
  have r1 := fun W => rightIs h1 W
  have r2 := fun W => rightIs h2 W
  have g1 := fun W => rAdd_yes h1 h2 W
  have gt := fun W => rTurned_any n2 d2 k2 W
  have g2 := fun W => rAdd_yes h1 (right_turn h2) W
  have g3 := fun W => rMul_yes h1 h2 W
  have g4 := fun W => rCompare_yes h1 h2 W
  generalize addR n1 d1 k1 n2 d2 k2 = S at *
  generalize addR n1 d1 k1 (turnB n2 d2) d2 k2 = D at *
  generalize mulR n1 d1 k1 n2 d2 k2 = M at *
  generalize cmpD n1 d1 k1 n2 d2 k2 = C at *
  generalize turnB n2 d2 = t2 at *
  have iS := fun W => isSame S.1 S.2.1 S.2.2.1 S.2.2.2 W
  have iD := fun W => isSame D.1 D.2.1 D.2.2.1 D.2.2.2 W
  have iM := fun W => isSame M.1 M.2.1 M.2.2.1 M.2.2.2 W
  clear h1 h2
  go_enter Tryd.func6, Tryd.ntmps6
  go_wp2_with fail
  refine (wakes_any _).mono ?_
  rintro e w1 ⟨rfl, hB1⟩
  have ka := ((Blk.new w _ _).alloc _).on hB1
  have kb := (Blk.new' (w.alloc _) _ _ (w.heap.size + 1) (by simp)).on hB1
  have hBw := (((Below.refl w.heap.size w).alloc (Nat.le_refl _) _).alloc (by simp) _).trans (hB1.mono (by simp; omega))
  have ca := ka.cell
  have cb := kb.cell
  clear hB1
  go_wp2_with fail
  refine (c1 _).mono ?_
  rintro e w2 ⟨rfl, hB2⟩
  have ka := ka.on hB2
  have kb := kb.on hB2
  have hBw := hBw.trans (hB2.mono hBw.size)
  clear hB2 ca cb c1
  have ca := ka.cell
  have cb := kb.cell
  have la := ka.lt
  have lb := kb.lt
  go_wp2_with fail
  refine (c2 _).mono ?_
  rintro e w3 ⟨rfl, hB3⟩
  have ks := (Blk.new w2 _ _).on hB3
  have ka := (ka.alloc _).on hB3
  have kb := (kb.alloc _).on hB3
  have hBw := (hBw.alloc hBw.size _).trans (hB3.mono (by have := hBw.size; simp; omega))
  clear hB3 ca cb la lb c2
  have ca := ka.cell
  have cb := kb.cell
  have la := ka.lt
  have lb := kb.lt
  go_wp2_with fail
  refine (c3 _).mono ?_
  rintro e w4 ⟨rfl, hB4⟩
  have kt := (Blk.new w3 _ _).on hB4
  have ks := (ks.alloc _).on hB4
  have ka := (ka.alloc _).on hB4
  have kb := (kb.alloc _).on hB4
  have hBw := (hBw.alloc hBw.size _).trans (hB4.mono (by have := hBw.size; simp; omega))
  clear hB4 ca cb la lb c3
  have ca := ka.cell
  have cb := kb.cell
  have la := ka.lt
  have lb := kb.lt
  go_wp2_with fail
  refine (c4 _).mono ?_
  rintro e w5 ⟨rfl, hB5⟩
  have kp := (Blk.new w4 _ _).on hB5
  have kt := (kt.alloc _).on hB5
  have ks := (ks.alloc _).on hB5
  have ka := (ka.alloc _).on hB5
  have kb := (kb.alloc _).on hB5
  have hBw := (hBw.alloc hBw.size _).trans (hB5.mono (by have := hBw.size; simp; omega))
  clear hB5 ca cb la lb c4
  have ca := ka.cell
  have cb := kb.cell
  go_wp2_with fail
  refine (r1 _).mono ?_
  rintro e w6 ⟨rfl, hB6⟩
  have kp := kp.on hB6
  have kt := kt.on hB6
  have ks := ks.on hB6
  have ka := ka.on hB6
  have kb := kb.on hB6
  have hBw := hBw.trans (hB6.mono hBw.size)
  clear hB6 ca cb r1
  have ca := ka.cell
  have cb := kb.cell
  go_wp2_with fail
  refine (r2 _).mono ?_
  rintro e w7 ⟨rfl, hB7⟩
  have kp := kp.on hB7
  have kt := kt.on hB7
  have ks := ks.on hB7
  have ka := ka.on hB7
  have kb := kb.on hB7
  have hBw := hBw.trans (hB7.mono hBw.size)
  clear hB7 ca cb r2
  have ca := ka.cell
  have cb := kb.cell
  go_wp2_with fail
  refine (g1 _).mono ?_
  rintro e w8 ⟨rfl, hB8⟩
  have kx := Blk.new w8 #[Value.bool S.1, .string S.2.1, .int .i64 S.2.2.1] 23
  have kp := (kp.on hB8).alloc (.cells #[Value.bool S.1, .string S.2.1, .int .i64 S.2.2.1] 23)
  have kt := (kt.on hB8).alloc (.cells #[Value.bool S.1, .string S.2.1, .int .i64 S.2.2.1] 23)
  have ks := (ks.on hB8).alloc (.cells #[Value.bool S.1, .string S.2.1, .int .i64 S.2.2.1] 23)
  have ka := (ka.on hB8).alloc (.cells #[Value.bool S.1, .string S.2.1, .int .i64 S.2.2.1] 23)
  have kb := (kb.on hB8).alloc (.cells #[Value.bool S.1, .string S.2.1, .int .i64 S.2.2.1] 23)
  have hBw := hBw.trans (hB8.mono hBw.size)
  have hBw := hBw.alloc hBw.size (.cells #[Value.bool S.1, .string S.2.1, .int .i64 S.2.2.1] 23)
  clear hB8 ca cb g1
  go_upto_region 11 with fail
  generalize w8.alloc (.cells #[Value.bool S.1, .string S.2.1, .int .i64 S.2.2.1] 23) = w9 at *
  generalize w8.heap.size = bx at *
  have la := ka.lt
  have lb := kb.lt
  go_cut [16, 17] (fun s16 s17 wx => s17 = .int .i64 D.2.2.2 ∧ ∃ b, s16 = .pointer (some ⟨b, 0, none⟩) ∧ Blk wx b #[Value.bool D.1, .string D.2.1, .int .i64 D.2.2.1] ∧ Below w9.heap.size w9 wx)
  case first =>
    have hS := Hold2.mk ka kb (Below.refl w9.heap.size w9) (Nat.le_refl _)
    clear ka kb kx ks kt kp hBw
    go_region_held3 (fun w' => (∀ o, w'.cell? ⟨w.heap.size, o, none⟩ = #[Value.bool n1, Value.string d1, Value.int .i64 k1][o]?) ∧ (∀ o, w'.cell? ⟨w.heap.size + 1, o, none⟩ = #[Value.bool n2, Value.string d2, Value.int .i64 k2][o]?) ∧ Below w9.heap.size w9 w')
      (first | exact hH.two | exact hS.drew.two | exact (hH.alloc _).two | exact (hS.drew.alloc _).two | (have _g := kz9; exact (((hH.set w9.heap.size 0 _ (by omega) (by omega) (Nat.le_refl _)).set w9.heap.size 1 _ (by omega) (by omega) (Nat.le_refl _)).set w9.heap.size 2 _ (by omega) (by omega) (Nat.le_refl _)).two) | (have _g := kz11; exact (((hH.set w11.heap.size 0 _ (by omega) (by omega) lz11).set w11.heap.size 1 _ (by omega) (by omega) lz11).set w11.heap.size 2 _ (by omega) (by omega) lz11).two) | exact ((((hH.alloc _).set w12.heap.size 0 _ (by omega) (by omega) lz12).set w12.heap.size 1 _ (by omega) (by omega) lz12).set w12.heap.size 2 _ (by omega) (by omega) lz12).two)
      (first
        | (go_at_call 32; refine (gt _).mono ?_; rintro e w11 ⟨rfl, hB11⟩
           have hH : Hold2 w9.heap.size w9 w.heap.size #[Value.bool n1, Value.string d1, Value.int .i64 k1] (w.heap.size + 1) #[Value.bool n2, Value.string d2, Value.int .i64 k2] w11 := (by first | exact hS.drew.on hB11 | exact (hS.drew.alloc _).on hB11)
           have lz11 : w9.heap.size ≤ w11.heap.size := hH.2.2.2.2.1.size
           first | have kz9 : Blk w11 w9.heap.size #[Value.bool false, Value.string ⟨#[]⟩, Value.int .i64 0] := (Blk.new w9.drew _ 23).on hB11 | skip)
        | (go_at_call 31; refine (g2 _).mono ?_; rintro e w12 ⟨rfl, hB12⟩
           have hH : Hold2 w9.heap.size w9 w.heap.size #[Value.bool n1, Value.string d1, Value.int .i64 k1] (w.heap.size + 1) #[Value.bool n2, Value.string d2, Value.int .i64 k2] w12 := (by first | exact hH.on hB12 | exact (hH.alloc _).on hB12)
           have lz12 : w9.heap.size ≤ w12.heap.size := hH.2.2.2.2.1.size
           first | have kz9 := kz9.on hB12 | have kz11 : Blk w12 w11.heap.size #[Value.bool false, Value.string ⟨#[]⟩, Value.int .i64 0] := (Blk.new w11 _ 23).on hB12 | skip
           first | (have cz := kz9.cell; have fz := kz9.free) | (have cz := kz11.cell; have fz := kz11.free) | skip))
    · go_wp2_with fail
      go_meet
      case rel => first
        | exact ⟨rfl, w12.heap.size, rfl, Blk.new w12 #[Value.bool D.1, .string D.2.1, .int .i64 D.2.2.1] 23, hH.2.2.2.2.1.alloc lz12 _⟩
        | exact ⟨rfl, w12.heap.size, rfl, (((Blk.new w12 #[Value.bool false, .string ⟨#[]⟩, .int .i64 0] 23).set 0 (.bool D.1)).set 1 (.string D.2.1)).set 2 (.int .i64 D.2.2.1), (((hH.2.2.2.2.1.alloc lz12 _).setCell (p := ⟨w12.heap.size, 0, none⟩) lz12 _).setCell (p := ⟨w12.heap.size, 1, none⟩) lz12 _).setCell (p := ⟨w12.heap.size, 2, none⟩) lz12 _⟩
    · go_wp2_with fail
      go_meet
      case rel => exact ⟨rfl, w11.heap.size, rfl, ((kz11.set 0 (.bool D.1)).set 1 (.string D.2.1)).set 2 (.int .i64 D.2.2.1), ((hH.2.2.2.2.1.setCell (p := ⟨w11.heap.size, 0, none⟩) lz11 (.bool D.1)).setCell (p := ⟨w11.heap.size, 1, none⟩) lz11 (.string D.2.1)).setCell (p := ⟨w11.heap.size, 2, none⟩) lz11 (.int .i64 D.2.2.1)⟩
    · go_wp2_with fail
      go_meet
      case rel => exact ⟨rfl, w9.heap.size, rfl, ((kz9.set 0 (.bool D.1)).set 1 (.string D.2.1)).set 2 (.int .i64 D.2.2.1), ((hH.2.2.2.2.1.setCell (p := ⟨w9.heap.size, 0, none⟩) (Nat.le_refl _) (.bool D.1)).setCell (p := ⟨w9.heap.size, 1, none⟩) (Nat.le_refl _) (.string D.2.1)).setCell (p := ⟨w9.heap.size, 2, none⟩) (Nat.le_refl _) (.int .i64 D.2.2.1)⟩
  case rest =>
    obtain ⟨rfl, by_, rfl, ky, hBx⟩ := hcut
    have ka := ka.on hBx
    have kb := kb.on hBx
    have ks := ks.on hBx
    have kt := kt.on hBx
    have kp := kp.on hBx
    have kx := kx.on hBx
    have hBw := hBw.trans (hBx.mono hBw.size)
    clear hBx la lb gt g2
    have ca := ka.cell
    have cb := kb.cell
    go_wp2_with fail
    refine (g3 _).mono ?_
    rintro e w10 ⟨rfl, hB10⟩
    have ka := (ka.on hB10).alloc (.cells #[Value.bool M.1, .string M.2.1, .int .i64 M.2.2.1] 23)
    have kb := (kb.on hB10).alloc (.cells #[Value.bool M.1, .string M.2.1, .int .i64 M.2.2.1] 23)
    have ks := (ks.on hB10).alloc (.cells #[Value.bool M.1, .string M.2.1, .int .i64 M.2.2.1] 23)
    have kt := (kt.on hB10).alloc (.cells #[Value.bool M.1, .string M.2.1, .int .i64 M.2.2.1] 23)
    have kp := (kp.on hB10).alloc (.cells #[Value.bool M.1, .string M.2.1, .int .i64 M.2.2.1] 23)
    have kx := (kx.on hB10).alloc (.cells #[Value.bool M.1, .string M.2.1, .int .i64 M.2.2.1] 23)
    have ky := (ky.on hB10).alloc (.cells #[Value.bool M.1, .string M.2.1, .int .i64 M.2.2.1] 23)
    have kz := Blk.new w10 #[Value.bool M.1, .string M.2.1, .int .i64 M.2.2.1] 23
    have hBw := hBw.trans (hB10.mono hBw.size)
    have hBw := hBw.alloc hBw.size (.cells #[Value.bool M.1, .string M.2.1, .int .i64 M.2.2.1] 23)
    clear hB10 ca cb g3
    go_upto_region 13 with fail
    generalize w10.alloc (.cells #[Value.bool M.1, .string M.2.1, .int .i64 M.2.2.1] 23) = w11 at *
    generalize w10.heap.size = bz at *
    have cs := ks.cell
    have cx := kx.cell
    go_wp2_with fail
    refine (iS _).mono ?_
    rintro e w12 ⟨rfl, hB12⟩
    have ka := ka.on hB12
    have kb := kb.on hB12
    have kt := kt.on hB12
    have kp := kp.on hB12
    have ky := ky.on hB12
    have kz := kz.on hB12
    have hBw := hBw.trans (hB12.mono hBw.size)
    clear hB12 cs cx iS ks kx
    have ct := kt.cell
    have cy := ky.cell
    go_wp2_with fail
    refine (iD _).mono ?_
    rintro e w13 ⟨rfl, hB13⟩
    have ka := ka.on hB13
    have kb := kb.on hB13
    have kp := kp.on hB13
    have kz := kz.on hB13
    have hBw := hBw.trans (hB13.mono hBw.size)
    clear hB13 ct cy iD kt ky
    have cp := kp.cell
    have cz := kz.cell
    go_wp2_with fail
    refine (iM _).mono ?_
    rintro e w14 ⟨rfl, hB14⟩
    have ka := ka.on hB14
    have kb := kb.on hB14
    have hBw := hBw.trans (hB14.mono hBw.size)
    clear hB14 cp cz iM kp kz
    have ca := ka.cell
    have cb := kb.cell
    go_wp2_with fail
    refine (g4 _).mono ?_
    rintro e w15 ⟨rfl, hB15⟩
    have hBw := hBw.trans (hB15.mono hBw.size)
    clear hB15 ca cb
    go_wp2_with fail
    go_ret
    exact ⟨by simp, hBw⟩

theorem decSums_walk (n1 : Bool) (d1 : ByteArray) (k1 : Int) (n2 : Bool) (d2 : ByteArray) (k2 : Int) (w : World) :
    Calls Tryd.prog 6 #[.agg #[.bool n1, .string d1, .int .i64 k1], .agg #[.bool n2, .string d2, .int .i64 k2]] w fun e w' => e = .returned (.bool true) ∧ Below w.heap.size w w' := by
  by_cases h : rightB n1 d1 k1 = false ∨ rightB n2 d2 k2 = false
  · exact sums_no h w
  · have hr1 : rightB n1 d1 k1 = true := by cases hq : rightB n1 d1 k1 with
      | true => rfl
      | false => exact absurd (.inl hq) h
    have hr2 : rightB n2 d2 k2 = true := by cases hq : rightB n2 d2 k2 with
      | true => rfl
      | false => exact absurd (.inr hq) h
    obtain ⟨_, _, h3, _, _, _⟩ := of_decide_eq_true hr1
    obtain ⟨_, _, h4, _, _, _⟩ := of_decide_eq_true hr2
    obtain ⟨k, rfl⟩ : ∃ k : Nat, k1 = k := ⟨k1.toNat, by omega⟩
    obtain ⟨m, rfl⟩ : ∃ m : Nat, k2 = m := ⟨k2.toNat, by omega⟩
    exact sums_yes hr1 hr2 w
end Go.Proofs.YtgccppilhbannaaDoor
