/-
  The walk of dec.Round.
-/
import Derived.Test.YtgccppilhbannaaDoorDecUp
import Derived.Test.YtgccppilhbannaaDoorDecRd2
import Derived.Test.YtgccppilhbannaaDoorBts
namespace Go.Proofs.YtgccppilhbannaaDoor
open Go.RowKit Go.PlainAid

/-- The digits, so many noughts ahead that more than c stand there. -/
def cutS (ds : ByteArray) (c : Nat) : ByteArray := zeros (c + 1 - ds.size) ++ ds
theorem cutS_size (ds : ByteArray) (c : Nat) : (cutS ds c).size = max (c + 1) ds.size := by unfold cutS; rw [ByteArray.size_append, zeros_size]; omega
theorem cutS_dig {ds : ByteArray} (h : AllDig ds) (c : Nat) : AllDig (cutS ds c) := pad_dig h _
theorem dval_cutS (ds : ByteArray) (c : Nat) : dval (cutS ds c) = dval ds := dval_pad _ _
def keptT (ds : ByteArray) (c : Nat) : ByteArray := (cutS ds c).extract 0 ((cutS ds c).size - c)
def restT (ds : ByteArray) (c : Nat) : ByteArray := (cutS ds c).extract ((cutS ds c).size - c) (cutS ds c).size
theorem restT_size (ds : ByteArray) (c : Nat) : (restT ds c).size = c := by unfold restT; rw [size_sub _ _ _ (Nat.le_refl _), cutS_size]; omega
theorem keptT_size (ds : ByteArray) (c : Nat) : (keptT ds c).size = max (c + 1) ds.size - c := by unfold keptT; rw [size_sub _ _ _ (by omega), cutS_size]; omega
theorem keptT_dig {ds : ByteArray} (h : AllDig ds) (c : Nat) : AllDig (keptT ds c) := sub_dig (cutS_dig h c) _ _ (by omega)
theorem restT_dig {ds : ByteArray} (h : AllDig ds) (c : Nat) : AllDig (restT ds c) := sub_dig (cutS_dig h c) _ _ (Nat.le_refl _)
theorem dval_cut {ds : ByteArray} (h : AllDig ds) (c : Nat) : dval (keptT ds c) = dval ds / 10 ^ c ∧ dval (restT ds c) = dval ds % 10 ^ c := by
  have h1 : dval (keptT ds c ++ restT ds c) = dval ds := by
    unfold keptT restT
    rw [split_at, dval_cutS]
  rw [dval_app, restT_size] at h1
  have h2 := dval_lt (restT_dig h c)
  rw [restT_size] at h2
  have hp : 0 < 10 ^ c := Nat.pow_pos (by decide)
  constructor
  · rw [← h1, Nat.add_comm, Nat.add_mul_div_right _ _ hp, Nat.div_eq_of_lt h2, Nat.zero_add]
  · rw [← h1, Nat.add_comm, Nat.add_mul_mod_self_right, Nat.mod_eq_of_lt h2]
theorem odd_last {s : ByteArray} (h : AllDig s) (h0 : 0 < s.size) : (bt s (s.size - 1) % 2 = 1) ↔ dval s % 2 = 1 := by
  have h1 : dval s = dval (s.extract 0 (s.size - 1) ++ s.extract (s.size - 1) s.size) := by rw [split_at]
  rw [dval_app] at h1
  have h2 : (s.extract (s.size - 1) s.size).size = 1 := by rw [size_sub _ _ _ (Nat.le_refl _)]; omega
  rw [h2] at h1
  have h3 : (dval (s.extract (s.size - 1) s.size) : Int) = bt s (s.size - 1) - 48 := by
    have h4 := dl_get (s.extract (s.size - 1) s.size) 0 (by omega)
    rw [bt_sub _ _ _ _ (by omega) (Nat.le_refl _), Nat.add_zero] at h4
    have h5 : dl (s.extract (s.size - 1) s.size) = [(dl (s.extract (s.size - 1) s.size))[0]'(by rw [dl_length]; omega)] := by
      apply List.ext_getElem
      · show (dl (s.extract (s.size - 1) s.size)).length = 1
        rw [dl_length, h2]
      · intro i h6 h7
        have : i = 0 := by simp at h7; omega
        subst this
        rfl
    unfold dval
    rw [h5]
    simp only [List.reverse_singleton, rowval]
    have := h (s.size - 1) (by omega)
    omega
  have h4 := h (s.size - 1) (by omega)
  omega
/-- The number that a rounded one is. -/
def roundN (neg : Bool) (n c : Nat) (mode : Int) : Nat := n / 10 ^ c + if upB neg (decide (n / 10 ^ c % 2 = 1)) (n % 10 ^ c) c mode = true then 1 else 0

theorem bits_odd (b : Int) (h0 : 48 ≤ b) (h1 : b ≤ 57) : (bits BinOp.and IntKind.u8 b 1 == 1) = decide (b % 2 = 1) := by
  have h : b = 48 ∨ b = 49 ∨ b = 50 ∨ b = 51 ∨ b = 52 ∨ b = 53 ∨ b = 54 ∨ b = 55 ∨ b = 56 ∨ b = 57 := by omega
  rcases h with rfl | rfl | rfl | rfl | rfl | rfl | rfl | rfl | rfl | rfl <;> decide
set_option maxRecDepth 100000 in
set_option maxHeartbeats 1000000 in
theorem round_cut (neg : Bool) (ds : ByteArray) (k m : Nat) (mode : Int) (w : World) (hr : rightB neg ds k = true) (hm : m < k) (hm1 : 1 ≤ mode) (hm6 : mode ≤ 6) :
    Calls Tryd.prog 22 #[.agg #[.bool neg, .string ds, .int .i64 k], .int .i64 m, .int .i64 mode] w fun e w' => e = .returned (decE (madeR neg (roundN neg (dval ds) (k - m) mode) m)) ∧ Below w.heap.size w w' := by
  have hsc := fun W => scaled_yes (scale := m) hr (by omega) (by obtain ⟨_, _, _, h4, _⟩ := of_decide_eq_true hr; omega) W
  obtain ⟨h1, h2, h3, h4, _, hd⟩ := of_decide_eq_true hr
  obtain ⟨c, hc⟩ : ∃ c, k - m = c := ⟨_, rfl⟩
  have hcm : (k : Int) - m = c := by omega
  have hc0 : 1 ≤ c := by omega
  have hc4 : c ≤ 400 := by omega
  rw [hc]
  obtain ⟨N, hN⟩ : ∃ N, c + 1 - ds.size = N := ⟨_, rfl⟩
  have hmx : max (0 : Int) ((c : Int) + 1 - ds.size) = (N : Int) := by omega
  have e1 : IntKind.i64.wrap ((c : Int) + 1) = (c : Int) + 1 := IntWalk.i64_in _ (by omega)
  have e2 : IntKind.i64.wrap ((c : Int) + 1 - ds.size) = (c : Int) + 1 - ds.size := IntWalk.i64_in _ (by omega)
  have hrp := fun W => repeat_any N W (by omega)
  have hzs : (9223372036854775807 < (zeros N).size + ds.size) = False := eq_false (by rw [zeros_size]; omega)
  have hS : cutS ds c = zeros N ++ ds := by rw [← hN]; rfl
  have HS := Lib.hid hS; clear hS hN
  clear hr hc
  go_enter Tryd.func22, Tryd.ntmps22
  go_wp2_with fail
  refine (hsc _).mono ?_
  rintro e w1 ⟨rfl, hB1⟩
  have ka := ((Blk.new w _ _).alloc _).on hB1
  have kb := (Blk.new' (w.alloc _) _ _ (w.heap.size + 1) (by simp)).on hB1
  have hBw1 := (((Below.refl w.heap.size w).alloc (Nat.le_refl _) _).alloc (by simp) _).trans (hB1.mono (by simp; omega))
  have hS := Hold2.mk ka kb hBw1 (Nat.le_refl _)
  have ca := ka.cell
  clear hB1 hsc
  go_upto_region 9 with fail
  clear ca
  go_region_held3 (fun w' => (∀ o, w'.cell? ⟨w.heap.size, o, none⟩ = #[Value.bool neg, Value.string ds, Value.int .i64 k][o]?) ∧ Below w.heap.size w w')
    (first | exact hS.one.drew | exact hS3.one)
    (first
      | (go_at_call 51; refine (hold_call (hrp _) hS.drew).mono ?_; rintro e w3 ⟨rfl, hS3⟩))
  obtain ⟨ca3, fa3, cb3, fb3, hB3, l3, l3', l3''⟩ := id hS3
  rw [← HS.out]
  have hsz := cutS_size ds c
  have HK := Lib.hid (show keptT ds c = (cutS ds c).extract 0 ((cutS ds c).size - c) from rfl)
  have HRS := Lib.hid (show restT ds c = (cutS ds c).extract ((cutS ds c).size - c) (cutS ds c).size from rfl)
  have hb := get_bt (keptT ds c)
  have hup : ∀ W, Calls Tryd.prog 55 #[.bool neg, .bool (decide (dval ds / 10 ^ c % 2 = 1)), .string (restT ds c), .int .i64 mode] W fun e w' => e = .returned (.bool (upB neg (decide (dval ds / 10 ^ c % 2 = 1)) (dval ds % 10 ^ c) c mode)) ∧ Below W.heap.size W w' := fun W => by
    have h := up_any neg (decide (dval ds / 10 ^ c % 2 = 1)) (restT ds c) mode W (restT_dig hd c) (by rw [restT_size]; omega) (by rw [restT_size]; omega)
    rw [(dval_cut hd c).2, restT_size] at h
    exact h
  have hks := keptT_size ds c
  have hodd := odd_last (keptT_dig hd c) (by omega)
  rw [(dval_cut hd c).1] at hodd
  have hkb := keptT_dig hd c ((keptT ds c).size - 1) (by omega)
  have hVK := (dval_cut hd c).1
  have hKD := keptT_dig hd c
  have HVK := Lib.hid hVK; have HKD := Lib.hid hKD
  clear hVK hKD hd e1 e2 hmx hzs hrp
  rw [HK.out] at hb hodd hkb
  have hkz : ((cutS ds c).extract 0 ((cutS ds c).size - c)).size = (cutS ds c).size - c := size_sub _ _ _ (by omega)
  rw [hkz] at hodd hkb
  rw [HRS.out] at hup
  rw [HK.out] at HVK HKD
  have h5 : c + 1 ≤ (cutS ds c).size := by omega
  have h6 : (cutS ds c).size ≤ 801 := by omega
  clear hsz hks
  generalize cutS ds c = S at *
  have e1 : IntKind.i64.wrap ((S.size : Int) - c) = (S.size : Int) - c := IntWalk.i64_in _ (by omega)
  have e2 : 0 ≤ (S.size : Int) - c := by omega
  have e3 : ((S.size : Int) - c).toNat = S.size - c := by omega
  go_wp2_with fail
  go_quiet (fail)
  clear e1 e2 e3
  have hS4 := hS3.on (below_drewN (Below.refl _ _) nq)
  clear ca3 fa3 cb3 fb3 hB3 l3 l3' l3'' hS3
  generalize w3.drewN nq = w4 at *
  generalize S.extract (S.size - c) S.size = R at *
  generalize S.extract 0 (S.size - c) = K at *
  rw [← hkz] at hodd hkb
  have hK1 : 1 ≤ K.size := by omega
  have hK8 : K.size ≤ 801 := by omega
  clear hkz
  obtain ⟨Q, hQ⟩ : ∃ Q, dval ds / 10 ^ c = Q := ⟨_, rfl⟩
  rw [hQ] at hup hodd HVK
  have HQ := Lib.hid hQ; clear hQ
  have e1 : IntKind.i64.wrap ((K.size : Int) - 1) = (K.size : Int) - 1 := IntWalk.i64_in _ (by omega)
  have e2 : 0 ≤ (K.size : Int) - 1 := by omega
  have e2' : (K.size : Int) - 1 < K.size := by omega
  have e3 : ((K.size : Int) - 1).toNat = K.size - 1 := by omega
  have hb1 := hb (K.size - 1) (by omega)
  have hbo : decide (Q % 2 = 1) = (bits BinOp.and IntKind.u8 (bt K (K.size - 1)) 1 == 1) := by
    rw [bits_odd _ hkb.1 hkb.2, decide_eq_decide]
    exact hodd.symm
  obtain ⟨u, hu⟩ : ∃ u, upB neg (decide (Q % 2 = 1)) (dval ds % 10 ^ c) c mode = u := ⟨_, rfl⟩
  rw [hu, hbo] at hup
  have HU := Lib.hid hu
  clear hu hbo hodd hkb hb
  go_wp2_with fail
  go_region_held3 (fun w' => (∀ o, w'.cell? ⟨w.heap.size, o, none⟩ = #[Value.bool neg, Value.string ds, Value.int .i64 k][o]?) ∧ Below w.heap.size w w')
    (first | exact hS4.one.drew | exact hS5.one)
    (first
      | (go_at_call 55; refine (hold_call (hup _) hS4.drew).mono ?_; rintro e w5 ⟨rfl, hS5⟩))
  have hmd : ∀ (s : ByteArray) (n : Nat), AllDig s → dval s = n → ∀ W, Calls Tryd.prog 49 #[.bool neg, .string s, .int .i64 m] W fun e w' => e = .returned (decE (madeR neg n m)) ∧ Below W.heap.size W w' := fun s n hs hn W => by
    have h := made_any neg s m W hs
    rw [hn] at h
    exact h
  have HMD := Lib.hid hmd
  clear hmd e1 e2 e2' e3 hb1 hS hS4 hup
  have hR : roundN neg (dval ds) c mode = Q + if u = true then 1 else 0 := by
    unfold roundN
    rw [HQ.out, HU.out]
  obtain ⟨ca, fa, cb, fb, hBw, l5, l5', l5''⟩ := id hS5
  cases u with
  | false =>
    have hm1 := HMD.out K Q HKD.out HVK.out
    have hR : madeR neg (roundN neg (dval ds) c mode) m = madeR neg Q m := by rw [hR]; rfl
    generalize madeR neg Q m = r at *
    have HR := Lib.hid hR; clear hR
    go_wp2_with fail
    refine (hm1 _).mono ?_
    rintro e w6 ⟨rfl, hB6⟩
    obtain ⟨_, _, cb6, fb6, hBw6, _⟩ := id (hS5.on hB6)
    clear ca fa cb fb hm1
    go_wp2
    refine bodyPost_ret (v := decE r) (by simp [results, Tryd.results22, go_sem, cb6]) rfl ⟨ret_val (by rw [HR.out]), ?_⟩
    exact ((hBw6.setCell (p := ⟨w.heap.size + 1, 0, none⟩) (Nat.le_succ _) _).setCell (p := ⟨w.heap.size + 1, 1, none⟩) (Nat.le_succ _) _).setCell (p := ⟨w.heap.size + 1, 2, none⟩) (Nat.le_succ _) _
  | true =>
    have hone : AllDig (zeros (K.size - 1) ++ ⟨#[49]⟩) := allDig_app (zeros_dig _) (fun j hj => by
      have : j = 0 := by have : (⟨#[49]⟩ : ByteArray).size = 1 := rfl; omega
      subst this
      decide)
    have hv1 : dval (zeros (K.size - 1) ++ ⟨#[49]⟩) = 1 := by
      rw [dval_pad]
      decide +kernel
    have hz1 : (zeros (K.size - 1) ++ ⟨#[49]⟩).size = K.size := by
      rw [ByteArray.size_append, zeros_size]
      have : (⟨#[49]⟩ : ByteArray).size = 1 := rfl
      omega
    have hm1 := HMD.out (plusS K (zeros (K.size - 1) ++ ⟨#[49]⟩)) (Q + 1) (plusS_dig HKD.out hone) (by rw [dval_plusS HKD.out hone hz1.symm, HVK.out, hv1])
    have hpl := fun (W : World) (vx vy : Value) (hx : Bts W vx K) (hy : Bts W vy (zeros (K.size - 1) ++ ⟨#[49]⟩)) => plus_any vx vy K (zeros (K.size - 1) ++ ⟨#[49]⟩) W hx hy hz1.symm (by omega) HKD.out hone
    have hrp := fun W => repeat_int ((K.size : Int) - 1) W (by omega) (by omega)
    rw [show ((K.size : Int) - 1).toNat = K.size - 1 by omega] at hrp
    have hzz : (zeros (K.size - 1)).size ≤ 1000000 := by rw [zeros_size]; omega
    have hR : madeR neg (roundN neg (dval ds) c mode) m = madeR neg (Q + 1) m := by rw [hR]; rfl
    have HZ1 := Lib.hid hz1; have HPL := Lib.hid hpl
    clear hz1 hpl hone hv1
    generalize plusS K (zeros (K.size - 1) ++ ⟨#[49]⟩) = P at *
    generalize madeR neg (Q + 1) m = r at *
    have HR := Lib.hid hR; clear hR
    have kc := conv_bytes
    go_wp2_with fail
    refine (hrp _).mono ?_
    rintro e w6 ⟨rfl, hB6⟩
    have hS6 := hS5.on hB6
    clear ca fa cb fb hrp
    generalize zeros (K.size - 1) = Z at *
    go_wp2_with fail
    have hzq : (Z ++ (⟨#[49]⟩ : ByteArray)).size = Z.size + 1 := by rw [ByteArray.size_append]; rfl
    generalize Z ++ (⟨#[49]⟩ : ByteArray) = T at *
    have hb1 := bts_new w6 T (by omega)
    have hBa := below_bytes w6 T
    generalize Lib.bytesWorld w6 5 T = w6a at *
    have hb1 := hb1.later (below_bytes w6a K) (Nat.le_refl _)
    have hb2 := bts_new w6a K (by omega)
    rw [hzq] at hb1
    have hS7 := (hS6.on hBa).on (below_bytes w6a K)
    refine (HPL.out _ _ _ hb2 hb1).mono ?_
    rintro e w8 ⟨rfl, hB8⟩
    have hS8 := hS7.on hB8
    clear hb1 hb2 hS7 hB8 hzq kc hS6 hB6 hBa
    obtain ⟨ca, fa, cb, fb, hBw, l5, l5', l5''⟩ := id hS8
    go_wp2_with fail
    refine (hm1 _).mono ?_
    rintro e w9 ⟨rfl, hB9⟩
    obtain ⟨_, _, cb9, fb9, hBw9, _⟩ := id (hS8.on hB9)
    clear ca fa cb fb hm1
    go_wp2
    refine bodyPost_ret (v := decE r) (by simp [results, Tryd.results22, go_sem, cb9]) rfl ⟨ret_val (by rw [HR.out]), ?_⟩
    exact ((hBw9.setCell (p := ⟨w.heap.size + 1, 0, none⟩) (Nat.le_succ _) _).setCell (p := ⟨w.heap.size + 1, 1, none⟩) (Nat.le_succ _) _).setCell (p := ⟨w.heap.size + 1, 2, none⟩) (Nat.le_succ _) _

set_option maxRecDepth 100000 in
set_option maxHeartbeats 2000000 in
theorem round_same (neg : Bool) (ds : ByteArray) (k m : Nat) (mode : Int) (w : World) (hr : rightB neg ds k = true) (hm : m ≤ 400) (hkm : k ≤ m) (hm1 : 1 ≤ mode) (hm6 : mode ≤ 6) :
    Calls Tryd.prog 22 #[.agg #[.bool neg, .string ds, .int .i64 k], .int .i64 m, .int .i64 mode] w fun e w' => e = .returned (decE (neg, ds, k, 0)) ∧ Below w.heap.size w w' := by
  have hsc := fun W => scaled_yes (scale := m) hr (by omega) (by omega) W
  clear hr
  go_enter Tryd.func22, Tryd.ntmps22
  go_wp2_with fail
  refine (hsc _).mono ?_
  rintro e w1 ⟨rfl, hB1⟩
  have ka := ((Blk.new w _ _).alloc _).on hB1
  have kb := (Blk.new' (w.alloc _) _ _ (w.heap.size + 1) (by simp)).on hB1
  have hBw1 := (((Below.refl w.heap.size w).alloc (Nat.le_refl _) _).alloc (by simp) _).trans (hB1.mono (by simp; omega))
  have ca := ka.cell
  have cb := kb.cell
  have fb := kb.free
  clear hB1 hsc
  go_wp2_with fail
  refine bodyPost_ret (v := (decE (neg, ds, k, 0))) (by simp [results, Tryd.results22, go_sem, cb]) rfl ⟨rfl, ?_⟩
  exact ((hBw1.setCell (p := ⟨w.heap.size + 1, 0, none⟩) (Nat.le_succ _) _).setCell (p := ⟨w.heap.size + 1, 1, none⟩) (Nat.le_succ _) _).setCell (p := ⟨w.heap.size + 1, 2, none⟩) (Nat.le_succ _) _

set_option maxRecDepth 100000 in
set_option maxHeartbeats 2000000 in
theorem round_no (neg : Bool) (ds : ByteArray) (sc scale mode : Int) (w : World) (h : rightB neg ds sc = false ∨ scale < 0 ∨ 400 < scale) :
    Calls Tryd.prog 22 #[.agg #[.bool neg, .string ds, .int .i64 sc], .int .i64 scale, .int .i64 mode] w fun e w' => e = .returned noneE ∧ Below w.heap.size w w' := by
  have hsc := fun W => scaled_no h W
  clear h
  go_enter Tryd.func22, Tryd.ntmps22
  go_wp2_with fail
  refine (hsc _).mono ?_
  rintro e w1 ⟨rfl, hB1⟩
  have ka := ((Blk.new w _ _).alloc _).on hB1
  have kb := (Blk.new' (w.alloc _) _ _ (w.heap.size + 1) (by simp)).on hB1
  have hBw1 := (((Below.refl w.heap.size w).alloc (Nat.le_refl _) _).alloc (by simp) _).trans (hB1.mono (by simp; omega))
  have ca := ka.cell
  have cb := kb.cell
  have fb := kb.free
  clear hB1 hsc
  go_wp2_with fail
  refine bodyPost_ret (v := noneE) (by simp [results, Tryd.results22, go_sem, cb]) rfl ⟨rfl, ?_⟩
  exact ((hBw1.setCell (p := ⟨w.heap.size + 1, 0, none⟩) (Nat.le_succ _) _).setCell (p := ⟨w.heap.size + 1, 1, none⟩) (Nat.le_succ _) _).setCell (p := ⟨w.heap.size + 1, 2, none⟩) (Nat.le_succ _) _

set_option maxRecDepth 100000 in
set_option maxHeartbeats 2000000 in
theorem round_mode1 (neg : Bool) (ds : ByteArray) (k m : Nat) (mode : Int) (w : World) (hr : rightB neg ds k = true) (hm : m ≤ 400) (hmode : mode < 1) :
    Calls Tryd.prog 22 #[.agg #[.bool neg, .string ds, .int .i64 k], .int .i64 m, .int .i64 mode] w fun e w' => e = .returned noneE ∧ Below w.heap.size w w' := by
  have hsc := fun W => scaled_yes (scale := m) hr (by omega) (by omega) W
  clear hr
  go_enter Tryd.func22, Tryd.ntmps22
  go_wp2_with fail
  refine (hsc _).mono ?_
  rintro e w1 ⟨rfl, hB1⟩
  have ka := ((Blk.new w _ _).alloc _).on hB1
  have kb := (Blk.new' (w.alloc _) _ _ (w.heap.size + 1) (by simp)).on hB1
  have hBw1 := (((Below.refl w.heap.size w).alloc (Nat.le_refl _) _).alloc (by simp) _).trans (hB1.mono (by simp; omega))
  have ca := ka.cell
  have cb := kb.cell
  have fb := kb.free
  clear hB1 hsc
  go_wp2_with fail
  refine bodyPost_ret (v := noneE) (by simp [results, Tryd.results22, go_sem, cb]) rfl ⟨rfl, ?_⟩
  exact ((hBw1.setCell (p := ⟨w.heap.size + 1, 0, none⟩) (Nat.le_succ _) _).setCell (p := ⟨w.heap.size + 1, 1, none⟩) (Nat.le_succ _) _).setCell (p := ⟨w.heap.size + 1, 2, none⟩) (Nat.le_succ _) _

set_option maxRecDepth 100000 in
set_option maxHeartbeats 2000000 in
theorem round_mode2 (neg : Bool) (ds : ByteArray) (k m : Nat) (mode : Int) (w : World) (hr : rightB neg ds k = true) (hm : m ≤ 400) (hmode : 6 < mode) :
    Calls Tryd.prog 22 #[.agg #[.bool neg, .string ds, .int .i64 k], .int .i64 m, .int .i64 mode] w fun e w' => e = .returned noneE ∧ Below w.heap.size w w' := by
  have hsc := fun W => scaled_yes (scale := m) hr (by omega) (by omega) W
  clear hr
  go_enter Tryd.func22, Tryd.ntmps22
  go_wp2_with fail
  refine (hsc _).mono ?_
  rintro e w1 ⟨rfl, hB1⟩
  have ka := ((Blk.new w _ _).alloc _).on hB1
  have kb := (Blk.new' (w.alloc _) _ _ (w.heap.size + 1) (by simp)).on hB1
  have hBw1 := (((Below.refl w.heap.size w).alloc (Nat.le_refl _) _).alloc (by simp) _).trans (hB1.mono (by simp; omega))
  have ca := ka.cell
  have cb := kb.cell
  have fb := kb.free
  clear hB1 hsc
  go_wp2_with fail
  refine bodyPost_ret (v := noneE) (by simp [results, Tryd.results22, go_sem, cb]) rfl ⟨rfl, ?_⟩
  exact ((hBw1.setCell (p := ⟨w.heap.size + 1, 0, none⟩) (Nat.le_succ _) _).setCell (p := ⟨w.heap.size + 1, 1, none⟩) (Nat.le_succ _) _).setCell (p := ⟨w.heap.size + 1, 2, none⟩) (Nat.le_succ _) _
end Go.Proofs.YtgccppilhbannaaDoor
