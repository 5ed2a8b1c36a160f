/-
  The walk of DecOne.
-/
import Derived.Test.YtgccppilhbannaaDoorRefMod
import Derived.Test.YtgccppilhbannaaDoorRefShift
import Derived.Test.YtgccppilhbannaaDoorSumsW
import Derived.Test.YtgccppilhbannaaDoorPowT
namespace Go.Proofs.YtgccppilhbannaaDoor
open Go.RowKit Go.PlainAid

set_option maxRecDepth 100000 in
set_option maxHeartbeats 1000000 in
theorem neg_no {neg : Bool} {ds : ByteArray} {k : Int} (h : rightB neg ds k = false) (w : World) :
    Calls Tryd.prog 36 #[.agg #[.bool neg, .string ds, .int .i64 k]] w fun e w' => e = .returned noneE ∧ Below w.heap.size w w' := by
  have hc1 := fun W => check_no h W
  clear h
  go_enter Tryd.func36, Tryd.ntmps36
  go_wp2_with fail
  refine (hc1 _).mono ?_
  rintro e w1 ⟨rfl, hB1⟩
  have kb := (Blk.new' (w.alloc _) _ _ (w.heap.size + 1) (by simp)).on hB1
  have hBw := (((Below.refl w.heap.size w).alloc (Nat.le_refl _) _).alloc (by simp) _).trans (hB1.mono (by simp; omega))
  have cb := kb.cell
  have fb := kb.free
  clear hc1 hB1
  go_wp2_with fail
  refine bodyPost_ret ?_ rfl ⟨rfl, ?_⟩
  · simp [results, Tryd.results36, go_sem, cb]
  · repeat (refine Below.setCell ?_ (Nat.le_succ _) _)
    exact hBw
theorem cmp_sgn {n : Bool} {d : ByteArray} {k : Nat} : cmpD n d k false ⟨#[48]⟩ 0 = sgnN n (dval d) := by
  unfold cmpD cmpZ sgnN
  have h0 : dval ⟨#[48]⟩ = 0 := by decide +kernel
  have hm : max k 0 - k = 0 := by omega
  rw [h0, hm, Nat.pow_zero, Nat.mul_one, Nat.zero_mul]
  by_cases hz : dval d = 0
  · rw [hz]; cases n <;> simp [sv]
  · rw [if_neg hz]
    cases n
    · simp [sv]; omega
    · simp [sv]; omega

set_option maxRecDepth 100000 in
set_option maxHeartbeats 4000000 in
theorem one_no {neg : Bool} {ds : ByteArray} {k n by_ : Int} (h : rightB neg ds k = false) (w : World) :
    Calls Tryd.prog 9 #[.agg #[.bool neg, .string ds, .int .i64 k], .int .i64 n, .int .i64 by_] w fun e w' => e = .returned (.bool true) ∧ Below w.heap.size w w' := by
  have c1 := fun W => neg_no h W
  have c2 := fun W => mod_no neg ds k n W (.inl h)
  have c3 := fun W => shift_no neg ds k by_ W (.inl h)
  have c4 := fun W => rightIs h W
  have c5 := fun W => isSame false ⟨#[]⟩ 0 2 W
  have c6 := fun W => sign_no h W
  clear h
  go_enter Tryd.func9, Tryd.ntmps9
  go_wp2_with fail
  refine (wakes_any _).mono ?_
  rintro e w1 ⟨rfl, hB1⟩
  have ka := (Blk.new w _ _).on hB1
  have hBw := ((Below.refl w.heap.size w).alloc (Nat.le_refl _) _).trans (hB1.mono (by simp))
  clear hB1
  have ca := ka.cell
  have la := ka.lt
  go_wp2_with fail
  refine (c1 _).mono ?_
  rintro e w2 ⟨rfl, hB⟩
  have ka := ka.on hB
  have hBw := hBw.trans (hB.mono hBw.size)
  clear hB ca la
  have ca := ka.cell
  have la := ka.lt
  go_wp2_with fail
  refine (c2 _).mono ?_
  rintro e w3 ⟨rfl, hB⟩
  have ko := (Blk.new w2 #[Value.bool false, .string ⟨#[]⟩, .int .i64 0] 23).on hB
  have ka := (ka.alloc _).on hB
  have hBw := (hBw.alloc hBw.size _).trans (hB.mono (by have := hBw.size; simp; omega))
  clear hB ca la
  have ca := ka.cell
  have la := ka.lt
  go_wp2_with fail
  refine (c3 _).mono ?_
  rintro e w4 ⟨rfl, hB⟩
  have km := (Blk.new w3 #[Value.bool false, .string ⟨#[]⟩, .int .i64 0] 23).on hB
  have ka := (ka.alloc _).on hB
  have ko := (ko.alloc _).on hB
  have hBw := (hBw.alloc hBw.size _).trans (hB.mono (by have := hBw.size; simp; omega))
  clear hB ca la
  have ca := ka.cell
  have la := ka.lt
  have la' : w.heap.size < w4.heap.size + 1 := Nat.lt_succ_of_lt la
  go_wp2_with fail
  refine (c4 _).mono ?_
  rintro e w5 ⟨rfl, hB⟩
  have ks := ((Blk.new w4 #[Value.bool false, .string ⟨#[]⟩, .int .i64 0] 23).alloc _).on hB
  have kn := (Blk.new' (w4.alloc _) #[Value.bool false, .string ⟨#[]⟩, .int .i64 0] 23 (w4.heap.size + 1) (by simp)).on hB
  have ka := ((ka.alloc _).alloc _).on hB
  have ko := ((ko.alloc _).alloc _).on hB
  have km := ((km.alloc _).alloc _).on hB
  have hBw := ((hBw.alloc hBw.size _).alloc (by have := hBw.size; simp; omega) _).trans (hB.mono (by have := hBw.size; simp; omega))
  clear hB la' ca la
  have co := ko.cell
  have lo := ko.lt
  have cn := kn.cell
  have ln := kn.lt
  go_wp2_with fail
  refine (c5 _).mono ?_
  rintro e w6 ⟨rfl, hB⟩
  have ka := ka.on hB
  have ko := ko.on hB
  have km := km.on hB
  have ks := ks.on hB
  have kn := kn.on hB
  have hBw := hBw.trans (hB.mono hBw.size)
  clear hB co lo cn ln
  have cm := km.cell
  have lm := km.lt
  have cn := kn.cell
  have ln := kn.lt
  go_wp2_with fail
  refine (c5 _).mono ?_
  rintro e w7 ⟨rfl, hB⟩
  have ka := ka.on hB
  have ko := ko.on hB
  have km := km.on hB
  have ks := ks.on hB
  have kn := kn.on hB
  have hBw := hBw.trans (hB.mono hBw.size)
  clear hB cm lm cn ln
  have cs := ks.cell
  have ls := ks.lt
  have cn := kn.cell
  have ln := kn.lt
  go_wp2_with fail
  refine (c5 _).mono ?_
  rintro e w8 ⟨rfl, hB⟩
  have ka := ka.on hB
  have ko := ko.on hB
  have km := km.on hB
  have ks := ks.on hB
  have kn := kn.on hB
  have hBw := hBw.trans (hB.mono hBw.size)
  clear hB cs ls cn ln
  have ca := ka.cell
  have la := ka.lt
  go_wp2_with fail
  refine (c6 _).mono ?_
  rintro e w9 ⟨rfl, hB⟩
  have ka := ka.on hB
  have ko := ko.on hB
  have km := km.on hB
  have ks := ks.on hB
  have kn := kn.on hB
  have hBw := hBw.trans (hB.mono hBw.size)
  clear hB ca la
  go_wp2_with fail
  go_ret
  exact ⟨by first | rfl | (simp; done), hBw⟩

set_option maxRecDepth 100000 in
set_option maxHeartbeats 8000000 in
theorem one_yes {neg : Bool} {ds : ByteArray} {k : Nat} {n by_ : Int} (h : rightB neg ds k = true) (hn2 : n ≤ 9223372036854775807) (w : World) (hP : PowTab w) :
    Calls Tryd.prog 9 #[.agg #[.bool neg, .string ds, .int .i64 k], .int .i64 n, .int .i64 by_] w fun e w' => e = .returned (.bool true) ∧ Below w.heap.size w w' := by
  have c1 := fun W => neg_yes h W
  have c2' : ∃ M : Bool × ByteArray × Int × Int, (∀ W, PowTab W → Calls Tryd.prog 37 #[.agg #[.bool neg, .string ds, .int .i64 k], .int .i64 n] W fun e w' => e = .returned (decE M) ∧ Below W.heap.size W w') ∧ (n < 1 → M = badD) ∧ (1 ≤ n → ∀ W, Calls Tryd.prog 39 #[.agg #[.bool neg, .string ds, .int .i64 k], .int .i64 n] W fun e w' => e = .returned (decE M) ∧ Below W.heap.size W w') := by
    by_cases g : n < 1
    · exact ⟨badD, fun W _ => mod_no neg ds k n W (.inr ⟨h, g⟩), fun _ => rfl, fun e => absurd e (by omega)⟩
    · obtain ⟨N, rfl⟩ : ∃ N : Nat, n = N := ⟨n.toNat, by omega⟩
      exact ⟨modR ds k N, fun W hP => mod_yes h (by omega) (by omega) W hP, fun e => absurd e g, fun _ W => rMod_yes h (by omega) (by omega) W⟩
  have c3' : ∃ S : Bool × ByteArray × Int × Int, (∀ W, Calls Tryd.prog 35 #[.agg #[.bool neg, .string ds, .int .i64 k], .int .i64 by_] W fun e w' => e = .returned (decE S) ∧ Below W.heap.size W w') ∧ (by_ < -400 ∨ 400 < by_ → S = badD) ∧ (-400 ≤ by_ → by_ ≤ 400 → ∀ W, Calls Tryd.prog 40 #[.agg #[.bool neg, .string ds, .int .i64 k], .int .i64 by_] W fun e w' => e = .returned (decE S) ∧ Below W.heap.size W w') := by
    by_cases g1 : by_ < -400
    · exact ⟨badD, fun W => shift_no neg ds k by_ W (.inr (.inl ⟨h, g1⟩)), fun _ => rfl, fun e => absurd e (by omega)⟩
    by_cases g2 : 400 < by_
    · exact ⟨badD, fun W => shift_no neg ds k by_ W (.inr (.inr ⟨h, g2⟩)), fun _ => rfl, fun _ e => absurd e (by omega)⟩
    refine ⟨shiftR neg ds k by_, fun W => ?_, fun e => absurd e (by omega), fun _ _ W => rShift_yes h (by omega) (by omega) W⟩
    by_cases g3 : by_ ≤ k
    · have e : shiftR neg ds k by_ = madeR neg (dval ds) (k - by_) := by unfold shiftR; rw [if_neg (by omega)]
      rw [e]
      exact shift_down neg ds k by_ W h (by omega) (by omega) g3
    · obtain ⟨N, rfl⟩ : ∃ N : Nat, by_ = N := ⟨by_.toNat, by omega⟩
      have e : shiftR neg ds k N = madeR neg (dval ds * 10 ^ (N - k)) 0 := by unfold shiftR; rw [if_pos (by omega), show ((N : Int) - (k : Int)).toNat = N - k by omega]
      rw [e]
      exact shift_up neg ds k N W h (by omega) (by omega)
  obtain ⟨M, c2, hM1, hM2⟩ := c2'
  obtain ⟨S, c3, hS1, hS2⟩ := c3'
  have c4 := fun W => rightIs h W
  have h0 : rightB false ⟨#[48]⟩ ((0 : Nat) : Int) = true := by decide +kernel
  have g1 := fun W => rCompare_yes h h0 W
  rw [cmp_sgn] at g1
  have gt := fun W => rTurned_any neg ds k W
  have cS := fun W => sign_yes h W
  generalize sgnN neg (dval ds) = sg at *
  generalize turnB neg ds = tb at *
  have iO := fun W => isSame tb ds k 0 W
  have iM := fun W => isSame M.1 M.2.1 M.2.2.1 M.2.2.2 W
  have iS := fun W => isSame S.1 S.2.1 S.2.2.1 S.2.2.2 W
  have HP := Lib.hid hP; have HM1 := Lib.hid hM1; have HM2 := Lib.hid hM2; have HS1 := Lib.hid hS1; have HS2 := Lib.hid hS2; have HC2 := Lib.hid c2
  clear h h0 hP hM1 hM2 hS1 hS2 c2
  go_enter Tryd.func9, Tryd.ntmps9
  go_wp2_with fail
  refine (wakes_any _).mono ?_
  rintro e w1 ⟨rfl, hB1⟩
  have ka := (Blk.new w _ _).on hB1
  have hBw := ((Below.refl w.heap.size w).alloc (Nat.le_refl _) _).trans (hB1.mono (by simp))
  clear hB1
  have ca := ka.cell
  have la := ka.lt
  go_wp2_with fail
  refine (c1 _).mono ?_
  rintro e w2 ⟨rfl, hB⟩
  have ka := ka.on hB
  have hBw := hBw.trans (hB.mono hBw.size)
  clear hB ca la
  have c2 := HC2.out (w2.alloc (.cells #[Value.bool tb, .string ds, .int .i64 k] 23)) (HP.out.on (hBw.alloc hBw.size _))
  have ca := ka.cell
  have la := ka.lt
  go_wp2_with fail
  refine c2.mono ?_
  rintro e w3 ⟨rfl, hB⟩
  have ko := (Blk.new w2 #[Value.bool tb, .string ds, .int .i64 k] 23).on hB
  have ka := (ka.alloc _).on hB
  have hBw := (hBw.alloc hBw.size _).trans (hB.mono (by have := hBw.size; simp; omega))
  clear hB c2 ca la
  have ca := ka.cell
  have la := ka.lt
  go_wp2_with fail
  refine (c3 _).mono ?_
  rintro e w4 ⟨rfl, hB⟩
  have km := (Blk.new w3 #[Value.bool M.1, .string M.2.1, .int .i64 M.2.2.1] 23).on hB
  have ka := (ka.alloc _).on hB
  have ko := (ko.alloc _).on hB
  have hBw := (hBw.alloc hBw.size _).trans (hB.mono (by have := hBw.size; simp; omega))
  clear hB ca la
  have ca := ka.cell
  have la := ka.lt
  have la' : w.heap.size < w4.heap.size + 1 := Nat.lt_succ_of_lt la
  go_wp2_with fail
  refine (c4 _).mono ?_
  rintro e w5 ⟨rfl, hB⟩
  have ks := ((Blk.new w4 #[Value.bool S.1, .string S.2.1, .int .i64 S.2.2.1] 23).alloc _).on hB
  have kn := (Blk.new' (w4.alloc _) #[Value.bool false, .string ⟨#[]⟩, .int .i64 0] 23 (w4.heap.size + 1) (by simp)).on hB
  have ka := ((ka.alloc _).alloc _).on hB
  have ko := ((ko.alloc _).alloc _).on hB
  have km := ((km.alloc _).alloc _).on hB
  have hBw := ((hBw.alloc hBw.size _).alloc (by have := hBw.size; simp; omega) _).trans (hB.mono (by have := hBw.size; simp; omega))
  clear hB la' ca la
  have ca := ka.cell
  have la := ka.lt
  go_wp2_with fail
  refine (g1 _).mono ?_
  rintro e w6 ⟨rfl, hB⟩
  have ka := ka.on hB
  have ko := ko.on hB
  have km := km.on hB
  have ks := ks.on hB
  have kn := kn.on hB
  have hBw := hBw.trans (hB.mono hBw.size)
  clear hB ca la
  have ca := ka.cell
  have co := ko.cell
  have hS := Hold2.mk ka ko (Below.refl w6.heap.size w6) (Nat.le_refl _)
  have hidx : w2.heap.size = w2.heap.size := rfl
  clear hidx
  go_upto_region 10 with fail
  clear ca co
  go_region_held3 (fun w' => (∀ o, w'.cell? ⟨w.heap.size, o, none⟩ = #[Value.bool neg, Value.string ds, Value.int .i64 k][o]?) ∧ (∀ o, w'.cell? ⟨w2.heap.size, o, none⟩ = #[Value.bool tb, Value.string ds, Value.int .i64 k][o]?) ∧ Below w6.heap.size w6 w')
    (first | exact hH.two | exact hS.drew.two)
    (first
      | (go_at_call 32; refine (hold_call (gt _) (by first | exact hH | exact hS.drew)).mono ?_; rintro e wt ⟨rfl, hH⟩)
      | (go_at_call 25; refine (hold_call (iO _) (by first | exact hH | exact hS.drew)).mono ?_; rintro e wt ⟨rfl, hH⟩)
      | (go_at_call 38; refine (hold_call (cS _) (by first | exact hH | exact hS.drew)).mono ?_; rintro e wt ⟨rfl, hH⟩))
  have hBx := hH.2.2.2.2.1
  have km := km.on hBx
  have ks := ks.on hBx
  have kn := kn.on hBx
  have ka := hH.blk.1
  have hBw := hBw.trans (hBx.mono hBw.size)
  clear hH hS hBx ko gt iO cS g1 c1 c3 c4
  obtain ⟨w7, hw7⟩ : ∃ w7, w7 = wt := ⟨_, rfl⟩
  subst hw7
  by_cases hn : n < 1
  case pos =>
    obtain rfl := HM1.out hn
    have iM := fun W => isSame false ⟨#[]⟩ 0 2 W
    have cm := km.cell
    have lm := km.lt
    have cn := kn.cell
    have ln := kn.lt
    go_wp2_with fail
    refine (iM _).mono ?_
    rintro e w8 ⟨rfl, hB⟩
    have ka := ka.on hB
    have km := km.on hB
    have ks := ks.on hB
    have kn := kn.on hB
    have hBw := hBw.trans (hB.mono hBw.size)
    clear hB cm lm cn ln
    by_cases hb1 : by_ < -400
    case pos =>
      obtain rfl := HS1.out (.inl hb1)
      have iS := fun W => isSame false ⟨#[]⟩ 0 2 W
      have cs := ks.cell
      have ls := ks.lt
      have cn := kn.cell
      have ln := kn.lt
      go_wp2_with fail
      refine (iS _).mono ?_
      rintro e w9 ⟨rfl, hB⟩
      have ka := ka.on hB
      have km := km.on hB
      have ks := ks.on hB
      have kn := kn.on hB
      have hBw := hBw.trans (hB.mono hBw.size)
      clear hB cs ls cn ln
      go_wp2_with fail
      go_ret
      exact ⟨by first | rfl | (simp; done), hBw⟩
    by_cases hb2 : 400 < by_
    case pos =>
      obtain rfl := HS1.out (.inr hb2)
      have iS := fun W => isSame false ⟨#[]⟩ 0 2 W
      have cs := ks.cell
      have ls := ks.lt
      have cn := kn.cell
      have ln := kn.lt
      go_wp2_with fail
      refine (iS _).mono ?_
      rintro e w9 ⟨rfl, hB⟩
      have ka := ka.on hB
      have km := km.on hB
      have ks := ks.on hB
      have kn := kn.on hB
      have hBw := hBw.trans (hB.mono hBw.size)
      clear hB cs ls cn ln
      go_wp2_with fail
      go_ret
      exact ⟨by first | rfl | (simp; done), hBw⟩
    have g4 := HS2.out (by omega) (by omega)
    have ca := ka.cell
    have la := ka.lt
    go_wp2_with fail
    refine (g4 _).mono ?_
    rintro e w9 ⟨rfl, hB⟩
    have ka := ka.on hB
    have km := km.on hB
    have ks := ks.on hB
    have kn := kn.on hB
    have hBw := hBw.trans (hB.mono hBw.size)
    clear hB ca la
    have cs := ks.cell
    have ls := ks.lt
    go_wp2_with fail
    refine (iS _).mono ?_
    rintro e w10 ⟨rfl, hB⟩
    have kz := (Blk.new w9 #[Value.bool S.1, .string S.2.1, .int .i64 S.2.2.1] 23).on hB
    have ka := (ka.alloc _).on hB
    have km := (km.alloc _).on hB
    have ks := (ks.alloc _).on hB
    have kn := (kn.alloc _).on hB
    have hBw := (hBw.alloc hBw.size _).trans (hB.mono (by have := hBw.size; simp; omega))
    clear hB cs ls
    go_wp2_with fail
    go_ret
    exact ⟨by first | rfl | (simp; done), hBw⟩
  case neg =>
    have g3 := HM2.out (by omega)
    have ca := ka.cell
    have la := ka.lt
    go_wp2_with fail
    refine (g3 _).mono ?_
    rintro e w8 ⟨rfl, hB⟩
    have ka := ka.on hB
    have km := km.on hB
    have ks := ks.on hB
    have kn := kn.on hB
    have hBw := hBw.trans (hB.mono hBw.size)
    clear hB ca la
    have cm := km.cell
    have lm := km.lt
    go_wp2_with fail
    refine (iM _).mono ?_
    rintro e w9 ⟨rfl, hB⟩
    have ky := (Blk.new w8 #[Value.bool M.1, .string M.2.1, .int .i64 M.2.2.1] 23).on hB
    have ka := (ka.alloc _).on hB
    have km := (km.alloc _).on hB
    have ks := (ks.alloc _).on hB
    have kn := (kn.alloc _).on hB
    have hBw := (hBw.alloc hBw.size _).trans (hB.mono (by have := hBw.size; simp; omega))
    clear hB cm lm
    by_cases hb1 : by_ < -400
    case pos =>
      obtain rfl := HS1.out (.inl hb1)
      have iS := fun W => isSame false ⟨#[]⟩ 0 2 W
      have cs := ks.cell
      have ls := ks.lt
      have cn := kn.cell
      have ln := kn.lt
      go_wp2_with fail
      refine (iS _).mono ?_
      rintro e w10 ⟨rfl, hB⟩
      have ka := ka.on hB
      have km := km.on hB
      have ks := ks.on hB
      have kn := kn.on hB
      have ky := ky.on hB
      have hBw := hBw.trans (hB.mono hBw.size)
      clear hB cs ls cn ln
      go_wp2_with fail
      go_ret
      exact ⟨by first | rfl | (simp; done), hBw⟩
    by_cases hb2 : 400 < by_
    case pos =>
      obtain rfl := HS1.out (.inr hb2)
      have iS := fun W => isSame false ⟨#[]⟩ 0 2 W
      have cs := ks.cell
      have ls := ks.lt
      have cn := kn.cell
      have ln := kn.lt
      go_wp2_with fail
      refine (iS _).mono ?_
      rintro e w10 ⟨rfl, hB⟩
      have ka := ka.on hB
      have km := km.on hB
      have ks := ks.on hB
      have kn := kn.on hB
      have ky := ky.on hB
      have hBw := hBw.trans (hB.mono hBw.size)
      clear hB cs ls cn ln
      go_wp2_with fail
      go_ret
      exact ⟨by first | rfl | (simp; done), hBw⟩
    have g4 := HS2.out (by omega) (by omega)
    have ca := ka.cell
    have la := ka.lt
    go_wp2_with fail
    refine (g4 _).mono ?_
    rintro e w10 ⟨rfl, hB⟩
    have ka := ka.on hB
    have km := km.on hB
    have ks := ks.on hB
    have kn := kn.on hB
    have ky := ky.on hB
    have hBw := hBw.trans (hB.mono hBw.size)
    clear hB ca la
    have cs := ks.cell
    have ls := ks.lt
    go_wp2_with fail
    refine (iS _).mono ?_
    rintro e w11 ⟨rfl, hB⟩
    have kz := (Blk.new w10 #[Value.bool S.1, .string S.2.1, .int .i64 S.2.2.1] 23).on hB
    have ka := (ka.alloc _).on hB
    have km := (km.alloc _).on hB
    have ks := (ks.alloc _).on hB
    have kn := (kn.alloc _).on hB
    have ky := (ky.alloc _).on hB
    have hBw := (hBw.alloc hBw.size _).trans (hB.mono (by have := hBw.size; simp; omega))
    clear hB cs ls
    go_wp2_with fail
    go_ret
    exact ⟨by first | rfl | (simp; done), hBw⟩

theorem decOne_walk (neg : Bool) (ds : ByteArray) (k n by_ : Int) (w : World) (_ : -9223372036854775808 ≤ n) (hn : n ≤ 9223372036854775807) (_ : -9223372036854775808 ≤ by_) (_ : by_ ≤ 9223372036854775807) (hP : PowTab w) :
    Calls Tryd.prog 9 #[.agg #[.bool neg, .string ds, .int .i64 k], .int .i64 n, .int .i64 by_] w fun e w' => e = .returned (.bool true) ∧ Below w.heap.size w w' := by
  cases hr : rightB neg ds k with
  | false => exact one_no hr w
  | true =>
    obtain ⟨h1, h2, h3, h4, _, _⟩ := of_decide_eq_true hr
    obtain ⟨K, rfl⟩ : ∃ K : Nat, k = K := ⟨k.toNat, by omega⟩
    exact one_yes hr hn w hP
end Go.Proofs.YtgccppilhbannaaDoor
