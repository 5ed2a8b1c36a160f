/-
  The walk of the reference's Float: a number times powers of two or five.
-/
import Derived.Test.YtgccppilhbannaaDoorWhole
import Derived.Test.YtgccppilhbannaaDoorRowW
import Derived.Deep.Cut
import Derived.Deep.DeepCutAuto
namespace Go.Proofs.YtgccppilhbannaaDoor
open Go.RowKit Go.PlainAid

theorem plusL_ge (a b : List Nat) : max a.length b.length ≤ (plusL a b).length := by
  unfold plusL
  split <;> rw [addL_length] <;> omega

set_option maxRecDepth 100000 in
set_option maxHeartbeats 2000000 in
theorem rFloat_any (F dn up : Nat) (hF : F < 9007199254740992) (hd : dn ≤ 3000) (hu : up ≤ 3000) (w : World) :
    Calls Tryd.prog 43 #[.int .u64 F, .int .i64 dn, .int .i64 up] w fun e w' => ∃ v l, e = .returned (.tuple #[v, .int .i64 dn]) ∧ Ints w' v l ∧ (∀ d ∈ l, d < 10) ∧ rowval l = F * 2 ^ up * 5 ^ dn ∧ (1 ≤ l.length ∧ l.length ≤ 20000) ∧ Below w.heap.size w w' := by
  have h0 := fun W => rRow_any false ⟨#[48]⟩ 0 0 W (fun j hj => by
    have : j = 0 := by have : (⟨#[48]⟩ : ByteArray).size = 1 := rfl; omega
    subst this
    decide) (by decide) (by omega) (by omega)
  have e00 : ((0 : Int) - (0 : Int)).toNat = 0 := rfl
  rw [e00] at h0
  have el : rowOf ⟨#[48]⟩ 0 = [0] := by decide +kernel
  rw [el] at h0
  clear e00 el
  go_enter Tryd.func43, Tryd.ntmps43
  go_wp2_with fail
  refine (h0 _).mono ?_
  rintro e w1 ⟨v0, rfl, hr0, hB1⟩
  have hI0 := hr0.ints
  clear h0 hr0
  go_upto_if 15 with fail
  go_cut [8] (fun s8 wx => ∃ l : List Nat, Ints wx s8 l ∧ (∀ d ∈ l, d < 10) ∧ rowval l = F ∧ (1 ≤ l.length ∧ l.length ≤ 20) ∧ Below w1.heap.size w1 wx)
  case first =>
    by_cases hz : F = 0
    · subst hz
      go_wp2_with fail
      go_meet
      case rel => exact ⟨[0], hI0, by simp, by simp [rowval], by simp, Below.refl _ _⟩
    · have hwh := fun W => rWhole_any F (by omega) (by omega) W
      have hsz : (digs F).size ≤ 20 := by
        have h1 := lowD_len (n := F) (m := 20) (by omega) (by decide)
        have hsz : (digs F).size = (lowD F).length := by unfold digs; rw [textL_size, List.length_reverse]
        omega
      have hby := fun W => rRow_any false (digs F) 0 0 W (digs_dig F) (by omega) (by omega) (by omega)
      have e00 : ((0 : Int) - (0 : Int)).toNat = 0 := rfl
      rw [e00] at hby
      have y1 := rowOf_lt (digs_dig F) 0
      have y2 : 1 ≤ (rowOf (digs F) 0).length ∧ (rowOf (digs F) 0).length ≤ 20 := by rw [rowOf_length]; have := digs_pos F; omega
      have y3 : rowval (rowOf (digs F) 0) = F := by rw [rowval_rowOf, dval_digs]; simp
      have hF0 : (0 : Int) < F := by omega
      have i1 : IntKind.i64.wrap (F : Int) = F := IntWalk.i64_in _ (by omega)
      generalize rowOf (digs F) 0 = Y at *
      have Y1 := Lib.hid y1; have Y3 := Lib.hid y3
      clear y1 y3 e00 hsz
      go_wp2_with fail
      refine (hwh _).mono ?_
      rintro e w2 ⟨rfl, hB2⟩
      clear hwh
      go_wp2_with fail
      refine (hby _).mono ?_
      rintro e w3 ⟨vy, rfl, hyr, hB3⟩
      have hYI := hyr.ints
      have hB13 := hB2.trans (hB3.mono hB2.size)
      clear hby hyr hB2 hB3
      go_wp2_with fail
      go_meet
      case rel => exact ⟨Y, hYI, Y1.out, Y3.out, y2, hB13⟩
  case rest =>
    obtain ⟨l0, hl0, h09, h0v, h0l, hBx⟩ := hcut
    have hBw := hB1.trans (hBx.mono hB1.size)
    have H09 := Lib.hid h09; have H0V := Lib.hid h0v
    clear hBx hB1 hI0 h09 h0v
    go_wp2_with fail
    go_loopg [8, 9] up (fun g s8 s9 wr => ∃ (i : Nat) (l : List Nat), i + g = up ∧ s9 = .int .i64 (i : Int) ∧ Ints wr s8 l ∧ (∀ d ∈ l, d < 10) ∧ rowval l = F * 2 ^ i ∧ (1 ≤ l.length ∧ l.length ≤ 20 + i) ∧ Below w.heap.size w wr)
    case atStart => exact ⟨0, l0, by omega, rfl, hl0, H09.out, by rw [H0V.out, Nat.pow_zero, Nat.mul_one], by omega, hBw⟩
    case round =>
      obtain ⟨i, l, hi, rfl, hlI, hl9, hlv, hll, hB⟩ := hrel
      have HL9 := Lib.hid hl9; have HLV := Lib.hid hlv
      cases gk with
      | zero =>
        have hiu : ¬ i < up := by omega
        have hie : i = up := by omega
        have HIE := Lib.hid hie
        clear hi hie hl9 hlv hBw hl0
        go_wp2_with fail
        go_loopg [8, 10] dn (fun g s8 s10 wr => ∃ (j : Nat) (m : List Nat), j + g = dn ∧ s10 = .int .i64 (j : Int) ∧ Ints wr s8 m ∧ (∀ d ∈ m, d < 10) ∧ rowval m = F * 2 ^ up * 5 ^ j ∧ (1 ≤ m.length ∧ m.length ≤ 20 + up + 3 * j) ∧ Below w.heap.size w wr)
        case atStart => exact ⟨0, l, by omega, rfl, hlI, HL9.out, by rw [HLV.out, HIE.out, Nat.pow_zero, Nat.mul_one], by have := HIE.out; omega, hB⟩
        case round =>
          obtain ⟨j, m, hj, rfl, hmI, hm9, hmv, hml, hB2⟩ := hrel
          have HM9 := Lib.hid hm9; have HMV := Lib.hid hmv
          have hz2 := hB2.size
          cases gk with
          | zero =>
            have hju : ¬ j < dn := by omega
            have hje : j = dn := by omega
            have HJE := Lib.hid hje
            clear hj hje hm9 hmv hlI
            go_wp2_with fail
            go_ret2
            exact ⟨_, m, by rfl, hmI, HM9.out, by rw [HMV.out, HJE.out], by have := HJE.out; omega, hB2⟩
          | succ q =>
            have hju : j < dn := by omega
            have HJ := Lib.hid hj
            have p1 := fun W (h : Ints W u8 m) => rPlus_any u8 u8 m m W h h hm9 hm9 (by omega) (by omega)
            obtain ⟨t, ht⟩ : ∃ t, plusL m m = t := ⟨_, rfl⟩
            have ht9 := plusL_lt m m
            have htv := plusL_val hm9 hm9
            have htl := plusL_length m m
            have htg := plusL_ge m m
            rw [ht] at p1 ht9 htv htl htg
            have p2 := fun W va vb (h : Ints W va t) (h' : Ints W vb t) => rPlus_any va vb t t W h h' ht9 ht9 (by omega) (by omega)
            obtain ⟨f, hf⟩ : ∃ f, plusL t t = f := ⟨_, rfl⟩
            have hf9 := plusL_lt t t
            have hfv := plusL_val ht9 ht9
            have hfl := plusL_length t t
            have hfg := plusL_ge t t
            rw [hf] at p2 hf9 hfv hfl hfg
            have p3 := fun W va (h : Ints W va f) (h' : Ints W u8 m) => rPlus_any va u8 f m W h h' hf9 hm9 (by omega) (by omega)
            obtain ⟨r, hr⟩ : ∃ r, plusL f m = r := ⟨_, rfl⟩
            have hr9 := plusL_lt f m
            have hrv := plusL_val hf9 hm9
            have hrl := plusL_length f m
            have hrg := plusL_ge f m
            rw [hr] at p3 hr9 hrv hrl hrg
            have hval : rowval r = F * 2 ^ up * 5 ^ (j + 1) := by
              rw [hrv, hfv, htv, hmv, Nat.pow_succ, ← Nat.mul_assoc]
              omega
            have HR9 := Lib.hid hr9; have HVAL := Lib.hid hval
            have hrl2 : 1 ≤ r.length ∧ r.length ≤ 20 + up + 3 * (j + 1) := by omega
            have j1 : IntKind.i64.wrap ((j : Int) + 1) = (j : Int) + 1 := IntWalk.i64_in _ (by omega)
            clear hj hm9 hmv ht ht9 htv htl htg hf hf9 hfv hfl hfg hr hr9 hrv hrl hrg hval hlI
            go_wp2_with fail
            refine (p1 _ hmI).mono ?_
            rintro e w5 ⟨v5, rfl, hr5, hB5⟩
            have hI5 := hr5.ints
            have hm5 := hmI.later hB5 (Nat.le_refl _)
            have hBx := hB2.trans (hB5.mono hz2)
            clear hr5
            go_wp2_with fail
            refine (p1 _ hm5).mono ?_
            rintro e w6 ⟨v6, rfl, hr6, hB6⟩
            have hI6 := hr6.ints
            have hI5 := hI5.later hB6 (Nat.le_refl _)
            have hm6 := hm5.later hB6 (Nat.le_refl _)
            have hBx := hBx.trans (hB6.mono hBx.size)
            clear hr6
            go_wp2_with fail
            refine (p2 _ _ _ hI5 hI6).mono ?_
            rintro e w7 ⟨v7, rfl, hr7, hB7⟩
            have hI7 := hr7.ints
            have hm7 := hm6.later hB7 (Nat.le_refl _)
            have hBx := hBx.trans (hB7.mono hBx.size)
            clear hr7
            go_wp2_with fail
            refine (p3 _ _ hI7 hm7).mono ?_
            rintro e w8 ⟨v8, rfl, hr8, hB8⟩
            have hI8 := hr8.ints
            have hBx := hBx.trans (hB8.mono hBx.size)
            clear hr8 hB5 hB6 hB7 hB8 p1 p2 p3
            go_wp2_with fail
            go_roundg q
            case rel => exact ⟨j + 1, r, by have := HJ.out; omega, by push_cast; rfl, hI8, HR9.out, HVAL.out, hrl2, hBx⟩
            case measure => omega
      | succ g =>
        have hiu : i < up := by omega
        have HI := Lib.hid hi
        have p1 := fun W (h : Ints W u8 l) => rPlus_any u8 u8 l l W h h hl9 hl9 (by omega) (by omega)
        obtain ⟨t, ht⟩ : ∃ t, plusL l l = t := ⟨_, rfl⟩
        have ht9 := plusL_lt l l
        have htv := plusL_val hl9 hl9
        have htl := plusL_length l l
        have htg := plusL_ge l l
        rw [ht] at p1 ht9 htv htl htg
        have hval : rowval t = F * 2 ^ (i + 1) := by
          rw [htv, hlv, Nat.pow_succ, ← Nat.mul_assoc]
          omega
        have HT9 := Lib.hid ht9; have HVAL := Lib.hid hval
        have htl2 : 1 ≤ t.length ∧ t.length ≤ 20 + (i + 1) := by omega
        have j1 : IntKind.i64.wrap ((i : Int) + 1) = (i : Int) + 1 := IntWalk.i64_in _ (by omega)
        have hz2 := hB.size
        clear hi hl9 hlv ht ht9 htv htl htg hval
        go_wp2_with fail
        refine (p1 _ hlI).mono ?_
        rintro e w5 ⟨v5, rfl, hr5, hB5⟩
        have hI5 := hr5.ints
        have hBx := hB.trans (hB5.mono hz2)
        clear hr5 p1
        go_wp2_with fail
        go_roundg g
        case rel => exact ⟨i + 1, t, by have := HI.out; omega, by push_cast; rfl, hI5, HT9.out, HVAL.out, htl2, hBx⟩
        case measure => omega
end Go.Proofs.YtgccppilhbannaaDoor
