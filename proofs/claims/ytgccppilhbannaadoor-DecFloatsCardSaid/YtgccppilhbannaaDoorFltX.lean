/-
  The walk of dec.Float over a number.
-/
import Derived.Test.YtgccppilhbannaaDoorFlo
import Derived.Test.YtgccppilhbannaaDoorRound
import Derived.Test.YtgccppilhbannaaDoorFmtU
import Derived.Deep.Cut
import Derived.Deep.DeepCutAuto
namespace Go.Proofs.YtgccppilhbannaaDoor
open Go.RowKit Go.PlainAid

set_option maxRecDepth 100000 in
set_option maxHeartbeats 1000000 in
theorem float_arg (u : Nat) (sc : Int) (w : World) (h : sc < 0 ∨ 40 < sc) :
    Calls Tryd.prog 42 #[.float .f64 u, .int .i64 sc] w fun e w' => e = .returned noneE ∧ Below w.heap.size w w' := by
  have kb := Blk.new w #[Value.bool false, Value.string ⟨#[]⟩, Value.int .i64 0] 23
  have hB := (Below.refl w.heap.size w).alloc (Nat.le_refl _) (.cells #[Value.bool false, Value.string ⟨#[]⟩, Value.int .i64 0] 23)
  have cb := kb.cell; have fb := kb.free
  rcases h with h | h
  · go_enter Tryd.func42, Tryd.ntmps42
    go_wp2_with fail
    refine bodyPost_ret (v := noneE) (by simp [results, Tryd.results42, go_sem, cb]) rfl ⟨rfl, ?_⟩
    exact hB
  · have h0 : ¬ sc < 0 := by omega
    go_enter Tryd.func42, Tryd.ntmps42
    go_wp2_with fail
    refine bodyPost_ret (v := noneE) (by simp [results, Tryd.results42, go_sem, cb]) rfl ⟨rfl, ?_⟩
    exact hB
theorem isNaN_yes {u : Nat} (h : fexp u = 2047) (h0 : ffr u ≠ 0) (w : World) : Calls Tryd.prog 68 #[.float .f64 u] w fun e w' => e = .returned (.bool true) ∧ w' = w := isNaN_any u true (by rw [order_nan h h0]; rfl) w
theorem isNaN_no {u : Nat} (h : ¬ (fexp u = 2047 ∧ ffr u ≠ 0)) (w : World) : Calls Tryd.prog 68 #[.float .f64 u] w fun e w' => e = .returned (.bool false) ∧ w' = w := isNaN_any u false (by rw [order_self h]; rfl) w
theorem isInf_yes {u : Nat} (hu : u < 18446744073709551616) (h : fexp u = 2047) (h0 : ffr u = 0) (w : World) : Calls Tryd.prog 69 #[.float .f64 u, .int .i64 0] w fun e w' => e = .returned (.bool true) ∧ w' = w := isInf_any u hu true (by
  have h1 : u % 9223372036854775808 = 9218868437227405312 := by unfold fexp at h; unfold ffr at h0; omega
  rw [h1, order_inf]; rfl) w
theorem isInf_no {u : Nat} (hu : u < 18446744073709551616) (h : fexp u < 2047) (w : World) : Calls Tryd.prog 69 #[.float .f64 u, .int .i64 0] w fun e w' => e = .returned (.bool false) ∧ w' = w := isInf_any u hu false (order_max (by rw [abs_parts.1]; exact h) (Nat.mod_lt _ (by decide))) w
abbrev farE : Value := decE (false, ⟨#[]⟩, 0, 7)
set_option maxRecDepth 100000 in
set_option maxHeartbeats 1000000 in
theorem float_far (u : Nat) (hu : u < 18446744073709551616) (m : Nat) (hm : m ≤ 40) (h : fexp u = 2047) (w : World) :
    Calls Tryd.prog 42 #[.float .f64 u, .int .i64 m] w fun e w' => e = .returned farE ∧ Below w.heap.size w w' := by
  have kb := Blk.new w #[Value.bool false, Value.string ⟨#[]⟩, Value.int .i64 0] 23
  have hB := (Below.refl w.heap.size w).alloc (Nat.le_refl _) (.cells #[Value.bool false, Value.string ⟨#[]⟩, Value.int .i64 0] 23)
  have cb := kb.cell; have fb := kb.free
  have h1 : ¬ (m : Int) < 0 := by omega
  have h2 : ¬ (40 : Int) < m := by omega
  by_cases h0 : ffr u = 0
  · have c1 := fun W => isNaN_no (u := u) (fun g => g.2 h0) W
    have c2 := fun W => isInf_yes hu h h0 W
    clear h h0
    go_enter Tryd.func42, Tryd.ntmps42
    go_wp2_with fail
    refine (c1 _).mono ?_
    rintro e w1 ⟨rfl, rfl⟩
    go_wp2_with fail
    refine (c2 _).mono ?_
    rintro e w1 ⟨rfl, rfl⟩
    go_wp2_with fail
    refine bodyPost_ret (v := farE) (by simp [results, Tryd.results42, go_sem, cb]) rfl ⟨rfl, ?_⟩
    exact hB
  · have c1 := fun W => isNaN_yes h h0 W
    clear h h0
    go_enter Tryd.func42, Tryd.ntmps42
    go_wp2_with fail
    refine (c1 _).mono ?_
    rintro e w1 ⟨rfl, rfl⟩
    go_wp2_with fail
    refine bodyPost_ret (v := farE) (by simp [results, Tryd.results42, go_sem, cb]) rfl ⟨rfl, ?_⟩
    exact hB
end Go.Proofs.YtgccppilhbannaaDoor
namespace Go.Proofs.YtgccppilhbannaaDoor
open Go.RowKit Go.PlainAid

theorem Bts.conv {w : World} {v : Value} {s : ByteArray} (h : Bts w v s) : (convert 76 9 v).run Tryd.prog w = .ok (.string s) w := by
  obtain ⟨g, o, cap, rfl, hg, hc, hm, hcell⟩ := h
  exact Lib.run_convert_whole (P := Tryd.prog) w 76 5 9 Tryd.underlying76 Tryd.underlying5 Tryd.underlying9 g o s (fun j hj => by rw [hcell j hj, ← get_bt s j hj]) cap
theorem Bts.drew {w : World} {v : Value} {s : ByteArray} (h : Bts w v s) : Bts w.drew v s := h
theorem bts_call {f : FuncId} {args : Array Value} {r : Value} {B : Nat} {w0 : World} {v : Value} {s : ByteArray} {W : World} (h : Calls Tryd.prog f args W fun e w' => e = .returned r ∧ Below W.heap.size W w') (hb : Bts W v s) (hB : Below B w0 W) (hz : B ≤ w0.heap.size) :
    Calls Tryd.prog f args W fun e w' => e = .returned r ∧ Bts w' v s ∧ Below B w0 w' := h.mono fun _ _ ⟨e, h⟩ => ⟨e, hb.later h (Nat.le_refl _), hB.trans (h.mono (Nat.le_trans hz hB.size))⟩
/-- The number that a float's parts are, as often doubled and as often times five. -/
def fltN (F up dn : Nat) : Nat := F * 2 ^ up * 5 ^ dn
/-- What Float gives: at a scale m. -/
def fltM (F up dn m : Nat) (neg : Bool) : Nat := if m < dn then roundN neg (fltN F up dn) (dn - m) 1 else fltN F up dn * 10 ^ (m - dn)

set_option maxRecDepth 100000 in
set_option maxHeartbeats 4000000 in
theorem float_num (u : Nat) (hu : u < 18446744073709551616) (m : Nat) (hm : m ≤ 40) (h : fexp u < 2047) (F up dn : Nat) (neg : Bool)
    (hF : F = if fexp u = 0 then ffr u else ffr u + 4503599627370496) (hup : up = fexp u - 1 - 1074) (hdn : dn = 1074 - (fexp u - 1)) (hneg : (((u : Int) / 9223372036854775808 == 1) : Bool) = neg) (w : World) (hP : PowTab w) :
    Calls Tryd.prog 42 #[.float .f64 u, .int .i64 m] w fun e w' => e = .returned (decE (madeR neg (fltM F up dn m neg) m)) ∧ Below w.heap.size w w' := by
  have kb := Blk.new w #[Value.bool false, Value.string ⟨#[]⟩, Value.int .i64 0] 23
  have hB := (Below.refl w.heap.size w).alloc (Nat.le_refl _) (.cells #[Value.bool false, Value.string ⟨#[]⟩, Value.int .i64 0] 23)
  have hP1 := hP.on hB
  have h1 : ¬ (m : Int) < 0 := by omega
  have h2 : ¬ (40 : Int) < m := by omega
  have c1 := fun W => isNaN_no (u := u) (fun g => by omega) W
  have c2 := fun W => isInf_no hu h W
  have q1 := toBits u
  have q2 : bits .and .u64 ((u : Int) / 4503599627370496) 2047 = ((fexp u : Nat) : Int) := and_exp (u / 4503599627370496) (by omega)
  have q3 : bits .and .u64 (u : Int) 4503599627370495 = ((ffr u : Nat) : Int) := and_frac u hu
  have hfr : ffr u < 4503599627370496 := Nat.mod_lt _ (by decide)
  generalize fexp u = E at *
  generalize ffr u = f at *
  have q4 := or_one f hfr
  have i1 : IntKind.i64.wrap (E : Int) = E := IntWalk.i64_in _ (by omega)
  have i2 : IntKind.i64.wrap ((E : Int) - 1) = (E : Int) - 1 := IntWalk.i64_in _ (by omega)
  clear hP hu
  go_enter Tryd.func42, Tryd.ntmps42
  go_wp2_with fail
  refine (c1 _).mono ?_
  rintro e w1 ⟨rfl, rfl⟩
  go_wp2_with fail
  refine (c2 _).mono ?_
  rintro e w1 ⟨rfl, rfl⟩
  have HP1 := Lib.hid hP1; have KB := Lib.hid kb; have HB := Lib.hid hB; have HNEG := Lib.hid hneg
  clear c1 c2 hP1 kb hB
  go_upto_if 44 with fail
  generalize hw1 : w.alloc (.cells #[Value.bool false, Value.string ⟨#[]⟩, Value.int .i64 0] 23) = w1 at *
  obtain ⟨x, hx⟩ : ∃ x, E - 1 = x := ⟨_, rfl⟩
  have hEF : (E = 0 ∧ F = f ∧ x = 0) ∨ (1 ≤ E ∧ F = f + 4503599627370496 ∧ x = E - 1) := by
    by_cases h0 : E = 0
    · exact .inl ⟨h0, by rw [hF, if_pos h0], by omega⟩
    · exact .inr ⟨by omega, by rw [hF, if_neg h0], hx.symm⟩
  rw [hx] at hup hdn
  have hFl : F < 9007199254740992 := by omega
  clear hF q2 q3 q1
  go_cut [8, 9] (fun s8 s9 wx => s8 = .int .i64 (x : Int) ∧ s9 = .int .u64 (F : Int) ∧ wx = w1)
  case first =>
    rcases hEF with ⟨rfl, rfl, rfl⟩ | ⟨hE1, rfl, rfl⟩
    · go_wp2_with fail
      go_meet
      case rel => exact ⟨rfl, rfl, rfl⟩
    · have hE2 : (0 : Int) < E := by omega
      have q5 : (E : Int) - 1 = ((E - 1 : Nat) : Int) := by omega
      go_wp2_with fail
      go_meet
      case rel => exact ⟨rfl, rfl, rfl⟩
  case rest =>
    obtain ⟨rfl, rfl, rfl⟩ := hcut
    have hx6 : x ≤ 2045 := by omega
    have hudx : (x : Int) - 1074 = (up : Int) - dn ∧ (up = 0 ∨ dn = 0) ∧ up ≤ 971 ∧ dn ≤ 1074 := by omega
    clear hEF hup hdn hx q4 i1 i2
    have i3 : IntKind.i64.wrap ((x : Int) - 1074) = (up : Int) - dn := by rw [hudx.1]; exact IntWalk.i64_in _ (by omega)
    have hfm := fun W (h : PowTab W) => fmtU F (by omega) W h
    have hsz : (digs F).size ≤ 17 := by
      have h1 := lowD_len (n := F) (m := 17) (by omega) (by decide)
      have hsz : (digs F).size = (lowD F).length := by unfold digs; rw [textL_size, List.length_reverse]
      omega
    have hdg := digs_dig F
    have hdv := dval_digs F
    have kc := conv_bytes
    generalize digs F = D at *
    have HDG := Lib.hid hdg; have HDV := Lib.hid hdv
    clear hdg hdv
    go_wp2_with fail
    refine (hfm _ HP1.out).mono ?_
    rintro e w2 ⟨rfl, hB2⟩
    go_wp2_with fail
    have hbt := bts_new w2 D (by omega)
    have hBD := hB2.trans ((below_bytes w2 D).mono hB2.size)
    generalize Lib.bytesWorld w2 5 D = w3 at *
    generalize Value.slice (some ⟨w2.heap.size, 0, none⟩) D.size (grownCap w2 D.size 0 5) = v3 at *
    clear hB2 hfm i3
    have HBT := Lib.hid hbt; have HBD := Lib.hid hBD
    clear hbt hBD
    go_loopg [8, 10] up (fun g s8 s10 wr => ∃ P : ByteArray, g ≤ up ∧ s8 = .int .i64 ((g : Int) - dn) ∧ Bts wr s10 P ∧ AllDig P ∧ dval P * 2 ^ g = F * 2 ^ up ∧ P.size + g ≤ 17 + up ∧ Below wc.heap.size wc wr)
    case atStart => exact ⟨D, Nat.le_refl _, rfl, HBT.out, HDG.out, by rw [HDV.out], by omega, HBD.out⟩
    case round =>
      obtain ⟨P, hg, rfl, hbt, hpd, hpv, hps, hBr⟩ := hrel
      have HPD := Lib.hid hpd; have HPV := Lib.hid hpv; have HBT := Lib.hid hbt
      have hz := hBr.size
      cases gk with
      | succ g =>
        have hdn0 : dn = 0 := by omega
        subst hdn0
        have h3 : (0 : Int) < ((g + 1 : Nat) : Int) - ((0 : Nat) : Int) := by omega
        have i4 : IntKind.i64.wrap (((g + 1 : Nat) : Int) - ((0 : Nat) : Int) - 1) = (g : Int) - ((0 : Nat) : Int) := by rw [show ((g + 1 : Nat) : Int) - ((0 : Nat) : Int) - 1 = (g : Int) - ((0 : Nat) : Int) by omega]; exact IntWalk.i64_in _ (by omega)
        have pl := fun W (hb : Bts W u10 P) => plus_any u10 u10 P P W hb hb rfl (by omega) hpd hpd
        have hd2 := plusS_dig hpd hpd
        have hv2 := dval_plusS hpd hpd rfl
        have hs2 := plusS_size P P
        clear hpd hpv hbt
        generalize plusS P P = T at *
        have HD2 := Lib.hid hd2
        have hv3 : dval T * 2 ^ g = F * 2 ^ up := by rw [← HPV.out, hv2, Nat.pow_succ, ← Nat.mul_assoc, Nat.add_mul, Nat.mul_two]
        have HV3 := Lib.hid hv3
        have HS2 := Lib.hid hs2
        have hT6 : T.size ≤ 1000000 := by omega
        clear hd2 hv2 hv3 hs2
        go_wp2_with fail
        refine (pl _ HBT.out).mono ?_
        rintro e w5 ⟨rfl, hB5⟩
        clear pl
        go_wp2_with fail
        have hbt5 := bts_new w5 T (by omega)
        have hBD5 := (hBr.trans (hB5.mono hz)).trans ((below_bytes w5 T).mono (Nat.le_trans hz hB5.size))
        generalize Lib.bytesWorld w5 5 T = w6 at *
        generalize Value.slice (some ⟨w5.heap.size, 0, none⟩) T.size (grownCap w5 T.size 0 5) = v6 at *
        go_roundg g
        case rel => exact ⟨T, by omega, rfl, hbt5, HD2.out, HV3.out, by have := HS2.out; omega, hBD5⟩
        case measure => omega
      | zero =>
        have h3 : ¬ (0 : Int) < ((0 : Nat) : Int) - (dn : Int) := by omega
        have hpv0 : dval P = F * 2 ^ up := by rw [← HPV.out, Nat.pow_zero, Nat.mul_one]
        have HPV0 := Lib.hid hpv0
        clear hpd hpv hbt hpv0 HPV
        go_wp2_with fail
        go_loopg [8, 10, 11] dn (fun g s8 s10 s11 wr => ∃ (i : Nat) (P : ByteArray), i + g = dn ∧ s8 = .int .i64 (-(g : Int)) ∧ s11 = .int .i64 (i : Int) ∧ Bts wr s10 P ∧ AllDig P ∧ dval P = F * 2 ^ up * 5 ^ i ∧ P.size ≤ 17 + up + i ∧ Below wc.heap.size wc wr)
        case atStart => exact ⟨0, P, by omega, congrArg (Value.int .i64) (by omega), rfl, HBT.out, HPD.out, by rw [HPV0.out, Nat.pow_zero, Nat.mul_one], by omega, hBr⟩
        case round =>
          clear HPV0 HPD HBT hps hBr hz
          obtain ⟨i, Q, hi, rfl, rfl, hbt, hqd, hqv, hqs, hBr⟩ := hrel
          have HQD := Lib.hid hqd; have HQV := Lib.hid hqv; have HBT := Lib.hid hbt; have HI := Lib.hid hi
          have hz := hBr.size
          cases gk with
          | succ g =>
            have h4 : -((g : Int) + 1) < 0 := by omega
            have i4 : IntKind.i64.wrap (-((g : Int) + 1) + 1) = -(g : Int) := by rw [show -((g : Int) + 1) + 1 = -(g : Int) by omega]; exact IntWalk.i64_in _ (by omega)
            have i5 : IntKind.i64.wrap ((i : Int) + 1) = (i : Int) + 1 := IntWalk.i64_in _ (by omega)
            have hl := fun W (hb : Bts W u10 Q) => halved_any u10 Q W hb hqd (by omega)
            clear hqd hqv hbt hi
            go_wp2_with fail
            refine (hl _ HBT.out).mono ?_
            rintro e w5 ⟨v5, T, rfl, hbt5, hTd, hTs, hTv, hB5⟩
            have HTV := Lib.hid hTv; have HTS := Lib.hid hTs; have HTD := Lib.hid hTd; have HBT5 := Lib.hid hbt5
            have hBD5 := hBr.trans (hB5.mono hz)
            clear hl hTv hTs hTd hbt5
            go_wp2_with fail
            go_roundg g
            case rel => exact ⟨i + 1, T, by have := HI.out; omega, rfl, by push_cast; rfl, HBT5.out, HTD.out, by rw [HTV.out, HQV.out, Nat.pow_succ, Nat.mul_comm, Nat.mul_assoc], by have := HTS.out; omega, hBD5⟩
            case measure => omega
          | zero =>
            have hid : i = dn := by omega
            subst hid
            have hV : dval Q = fltN F up i := HQV.out
            have HV := Lib.hid hV
            clear hqd hqv hbt hi hV HI HQV
            have i6 : IntKind.i64.wrap ((i : Int) - (m : Int)) = (i : Int) - (m : Int) := IntWalk.i64_in _ (by omega)
            by_cases hcut : m < i
            · obtain ⟨c, hc⟩ : ∃ c, i - m = c := ⟨_, rfl⟩
              have hR : fltM F up i m neg = roundN neg (dval Q) c 1 := by unfold fltM; rw [if_pos hcut, HV.out, hc]
              have HR := Lib.hid hR
              have hc1 : 1 ≤ c ∧ c ≤ 1074 := by omega
              have hic : (i : Int) - (m : Int) = c := by omega
              rw [hic] at i6
              obtain ⟨N, hN⟩ : ∃ N, c + 1 - Q.size = N := ⟨_, rfl⟩
              have hN6 : N ≤ 1075 := by omega
              have hmx : max (0 : Int) ((c : Int) + 1 - Q.size) = (N : Int) := by omega
              have e1 : IntKind.i64.wrap ((c : Int) + 1) = (c : Int) + 1 := IntWalk.i64_in _ (by omega)
              have e2 : IntKind.i64.wrap ((c : Int) + 1 - Q.size) = (c : Int) + 1 - Q.size := IntWalk.i64_in _ (by omega)
              have h5 : (0 : Int) < (c : Int) := by omega
              obtain ⟨gq, oq, cq, rfl, hgq, hcq, hmq, hcell⟩ := HBT.out
              have ha1 : (wr.alloc (.cells #[.int .u8 48] 5)).cell? ⟨wr.heap.size, 0, none⟩ = some (.int .u8 48) := cell_one_new wr (.int .u8 48) 5 0 _ rfl
              have hrp := slrep_any wr.heap.size N (wr.alloc (.cells #[.int .u8 48] 5)) ha1 (by simp) (by omega)
              have hcell1 : ∀ j, j < Q.size → (wr.alloc (.cells #[.int .u8 48] 5)).cell? ⟨gq, oq + j, none⟩ = some (.int .u8 (bt Q j)) := fun j hj => (((Below.refl wr.heap.size wr).alloc (Nat.le_refl _) _).cell (p := ⟨gq, oq + j, none⟩) hgq).trans (hcell j hj)
              have hBa : Below wc.heap.size wc (wr.alloc (.cells #[.int .u8 48] 5)) := hBr.alloc hz _
              have hza : (wr.alloc (.cells #[.int .u8 48] 5)).heap.size = wr.heap.size + 1 := by simp
              have hSl : List.replicate N 48 ++ Q.data.toList = (cutS Q c).data.toList := by unfold cutS; rw [app_list, zeros_list, hN]
              have HC1 := Lib.hid hcell1; have HBA := Lib.hid hBa; have HSL := Lib.hid hSl; have HZA := Lib.hid hza; have HHC := Lib.hid hc; have HHN := Lib.hid hN
              clear HV HBT hcell hcell1 ha1 hBr hBa hSl hza hR hc hN
              go_wp2_with fail
              refine hrp.mono ?_
              rintro e w5 ⟨v5, rfl, hrow5, hB5⟩
              have hcell5 : ∀ j, j < Q.size → w5.cell? ⟨gq, oq + j, none⟩ = some (.int .u8 (bt Q j)) := fun j hj => (hB5.cell (p := ⟨gq, oq + j, none⟩) (by show gq < _; have := HZA.out; omega)).trans (HC1.out j hj)
              have hz5 := hB5.size
              have hBc5 : Below wc.heap.size wc w5 := HBA.out.trans (hB5.mono (by have := HZA.out; omega))
              have HC5 := Lib.hid hcell5; have HROW := Lib.hid hrow5; have HBC := Lib.hid hBc5
              have hle : (List.replicate N (48 : UInt8)).length + Q.size ≤ 1000000000000 := by rw [List.length_replicate]; omega
              have HLE := Lib.hid hle
              clear hrp HC1 HBA hcell5 hrow5 hBc5 hle hB5
              go_wp2_with (at_builtin; go_must (refine wpList_spread_byte rfl _ _ rfl (wr.alloc (.cells #[.int .u8 48] 5)).heap.size v5 (List.replicate N 48) Q gq oq cq rfl HROW.out rfl HC5.out HLE.out HBC.out (by have := HZA.out; omega) hz5 ?_); intro v6 w6 hrow6 hB6; rw [HSL.out] at hrow6; obtain ⟨gR, cR, rfl, hRg, hRl, hRc, hRm, hRcell⟩ := hrow6.open (size_list _) (by rw [cutS_size]; omega))
              have hS48 := cutS_size Q c
              have hrv : ∀ j, j < (cutS Q c).size → w6.cell? ⟨gR, 0 + j, none⟩ = some (.int .u8 (bt (cutS Q c) j)) := fun j hj => by rw [Nat.zero_add]; exact hRcell j hj
              have hkd := keptT_dig HQD.out c
              have hrd := restT_dig HQD.out c
              have hkz := keptT_size Q c
              have hrz := restT_size Q c
              have hdc := dval_cut HQD.out c
              obtain ⟨S, hSS⟩ : ∃ S, cutS Q c = S := ⟨_, rfl⟩
              have hK : keptT Q c = S.extract 0 (S.size - c) := by unfold keptT; rw [hSS]
              have hRR : restT Q c = S.extract (S.size - c) S.size := by unfold restT; rw [hSS]
              rw [hSS] at hS48 hrv hRc
              have hle1 : c + 1 ≤ S.size := by omega
              have hle2 : S.size ≤ 3000 := by omega
              have hby : Lib.Bytes w6 gR 0 S := fun i hi => by rw [hrv i hi, ← get_bt S i hi]
              have kr : ∀ n, (convert 76 9 (.slice (some ⟨gR, S.size - c, none⟩) c (cR - (S.size - c)))).run Tryd.prog (w6.drewN n) = .ok (.string (S.extract (S.size - c) S.size)) (w6.drewN n) := fun n => by
                have h := Lib.run_convert_window (P := Tryd.prog) (w6.drewN n) 76 5 9 Tryd.underlying76 Tryd.underlying5 Tryd.underlying9 gR 0 S (hby.drewN n) (S.size - c) c (cR - (S.size - c)) (by omega)
                rw [Nat.zero_add, show S.size - c + c = S.size by omega] at h
                exact h
              have e3 : IntKind.i64.wrap ((S.size : Int) - c) = (S.size : Int) - c := IntWalk.i64_in _ (by omega)
              have e4 : 0 ≤ (S.size : Int) - c := by omega
              have e5 : ((S.size : Int) - c).toNat = S.size - c := by omega
              have e6 : S.size - (S.size - c) = c := by omega
              have e7 : (S.size : Int) - c ≤ S.size := by omega
              have e8 : ¬ cR = S.size - c := by omega
              have e9 : S.size - c ≤ cR := by omega
              rw [hSS]
              have HK := Lib.hid hK; have HRR := Lib.hid hRR; have HKZ := Lib.hid hkz; have HRZ := Lib.hid hrz; have HDC := Lib.hid hdc; have HKD := Lib.hid hkd; have HRD := Lib.hid hrd
              clear hrow6 hRcell HROW HC5 hS48 hSS hK hRR hkz hrz hdc hkd hrd hrv
              go_wp2_with fail
              go_quiet (fail)
              obtain ⟨K, hKK⟩ : ∃ K, keptT Q c = K := ⟨_, rfl⟩
              obtain ⟨R, hRRR⟩ : ∃ R, restT Q c = R := ⟨_, rfl⟩
              have fK : K = S.extract 0 (S.size - c) := by rw [← hKK]; exact HK.out
              have fz : S.size - c = K.size := by rw [fK, size_sub _ _ _ (by omega)]; omega
              have hbK : Bts (w6.drewN nq) (.slice (some ⟨gR, 0, none⟩) K.size cR) K := ⟨gR, 0, cR, rfl, by simpa using hRl, by omega, hRm, fun j hj => by
                have hbj : bt K j = bt S j := by rw [fK, bt_sub _ _ _ _ (by omega) (by omega), Nat.zero_add]
                rw [World.cell?_drewN, hby j (by omega), hbj, ← get_bt S j (by omega)]⟩
              have fR : S.extract (S.size - c) S.size = R := by rw [← hRRR]; exact HRR.out.symm
              rw [fR, fz]
              have hB7 : Below wc.heap.size wc (w6.drewN nq) := below_drewN hB6 nq
              have hkd : AllDig K := by rw [← hKK]; exact HKD.out
              have hrd : AllDig R := by rw [← hRRR]; exact HRD.out
              have hrz : R.size = c := by rw [← hRRR]; exact HRZ.out
              have hkz : K.size = S.size - c := fz.symm
              have hdc : dval K = dval Q / 10 ^ c ∧ dval R = dval Q % 10 ^ c := by rw [← hKK, ← hRRR]; exact HDC.out
              have hK1 : 1 ≤ K.size := by omega
              have hK8 : K.size ≤ 3000 := by omega
              clear kr e3 e4 e5 e6 e7 e8 e9 HK HRR HKZ HRZ HDC HKD HRD fK fz fR hKK hRRR hby
              generalize w6.drewN nq = w7 at *
              have kk := Bts.conv hbK
              obtain ⟨gK, oK, cK, hvK, hgK, hcK, hmK, hcellK⟩ := id hbK
              have hcK1 := hcellK (K.size - 1) (by omega)
              injection hvK with hvK1 hvK2 hvK3
              injection hvK1 with hvK1
              injection hvK1 with hvK4 hvK5
              subst hvK4; subst hvK5; subst hvK3
              rw [Nat.zero_add] at hcK1
              have e1 : IntKind.i64.wrap ((K.size : Int) - 1) = (K.size : Int) - 1 := IntWalk.i64_in _ (by omega)
              have e2 : 0 ≤ (K.size : Int) - 1 := by omega
              have e2' : (K.size : Int) - 1 < K.size := by omega
              have e3 : ((K.size : Int) - 1).toNat = K.size - 1 := by omega
              have hodd := odd_last hkd (by omega)
              have hkb := hkd (K.size - 1) (by omega)
              have hbo : decide (dval K % 2 = 1) = (bits BinOp.and IntKind.u8 (bt K (K.size - 1)) 1 == 1) := by
                rw [bits_odd _ hkb.1 hkb.2, decide_eq_decide]
                exact hodd.symm
              obtain ⟨uu, huu⟩ : ∃ uu, upB neg (decide (dval K % 2 = 1)) (dval R) c 1 = uu := ⟨_, rfl⟩
              have hup := fun W => up_any neg (decide (dval K % 2 = 1)) R 1 W hrd (by omega) (by omega)
              rw [hrz] at hup
              simp only [huu] at hup
              simp only [hbo] at hup
              have hfin : madeR neg (fltM F up i m neg) m = madeR neg (dval K + if uu = true then 1 else 0) m := by
                rw [HR.out]; unfold roundN; rw [← hdc.1, ← hdc.2, huu]
              have HFIN := Lib.hid hfin; have HBK := Lib.hid hbK; have HKD := Lib.hid hkd
              clear hdc hfin hbo huu hodd hkb hrd hrz hkz hcellK HR HQD hbK hkd
              go_wp2_with fail
              refine (hup _).mono ?_
              rintro e w8 ⟨rfl, hB8⟩
              have hbK8 := HBK.out.later hB8 (Nat.le_refl _)
              have hBc8 := hB7.trans (hB8.mono hB7.size)
              clear hup hB8 HBK hB7 kk hcK1 e2 e2' e3
              cases uu with
              | false =>
                have hm1 := fun W => made_any neg K m W HKD.out
                have hfin2 : madeR neg (fltM F up i m neg) m = madeR neg (dval K) m := HFIN.out
                obtain ⟨r, hr⟩ : ∃ r, madeR neg (dval K) m = r := ⟨_, rfl⟩
                rw [hr] at hfin2 hm1
                have HFIN := Lib.hid hfin2
                clear hfin2 hr e1
                go_wp2_with fail
                refine (hm1 _).mono ?_
                rintro e w9 ⟨rfl, hB9⟩
                have hBc9 := hBc8.trans (hB9.mono hBc8.size)
                have kb9 := KB.out.on hBc9
                have cb9 := kb9.cell; have fb9 := kb9.free
                clear hm1
                go_wp2_with fail
                refine bodyPost_ret (v := decE r) (by simp [results, Tryd.results42, go_sem, cb9]) rfl ⟨ret_val (by rw [HFIN.out]), ?_⟩
                exact (((HB.out.trans (hBc9.mono HB.out.size)).setCell (p := ⟨w.heap.size, 0, none⟩) (Nat.le_refl _) _).setCell (p := ⟨w.heap.size, 1, none⟩) (Nat.le_refl _) _).setCell (p := ⟨w.heap.size, 2, none⟩) (Nat.le_refl _) _
              | true =>
                have hone : AllDig (zeros (K.size - 1) ++ ⟨#[49]⟩) := allDig_app (zeros_dig _) (fun j hj => by
                  have : j = 0 := by have : (⟨#[49]⟩ : ByteArray).size = 1 := rfl; omega
                  subst this
                  decide)
                have hv1 : dval (zeros (K.size - 1) ++ ⟨#[49]⟩) = 1 := by
                  rw [dval_pad]
                  decide +kernel
                have hz1 : (zeros (K.size - 1) ++ ⟨#[49]⟩).size = K.size := by
                  rw [ByteArray.size_append, zeros_size]
                  have : (⟨#[49]⟩ : ByteArray).size = 1 := rfl
                  omega
                have hm1 := fun W => made_any neg (plusS K (zeros (K.size - 1) ++ ⟨#[49]⟩)) m W (plusS_dig HKD.out hone)
                rw [dval_plusS HKD.out hone hz1.symm, hv1] at hm1
                have hpl := fun (W : World) (vx vy : Value) (hx : Bts W vx K) (hy : Bts W vy (zeros (K.size - 1) ++ ⟨#[49]⟩)) => plus_any vx vy K (zeros (K.size - 1) ++ ⟨#[49]⟩) W hx hy hz1.symm (by omega) HKD.out hone
                have hrp := fun W => repeat_int ((K.size : Int) - 1) W (by omega) (by omega)
                rw [show ((K.size : Int) - 1).toNat = K.size - 1 by omega] at hrp
                have hzz : (zeros (K.size - 1)).size ≤ 1000000 := by rw [zeros_size]; omega
                have hfin2 : madeR neg (fltM F up i m neg) m = madeR neg (dval K + 1) m := HFIN.out
                obtain ⟨r, hr⟩ : ∃ r, madeR neg (dval K + 1) m = r := ⟨_, rfl⟩
                rw [hr] at hfin2 hm1
                have HFIN2 := Lib.hid hfin2
                have HZ1 := Lib.hid hz1; have HPL := Lib.hid hpl; have HBK8 := Lib.hid hbK8
                clear hz1 hpl hone hv1 hfin2 hr hbK8 HFIN
                generalize plusS K (zeros (K.size - 1) ++ ⟨#[49]⟩) = P2 at *
                have kc := conv_bytes
                go_wp2_with fail
                refine (hrp _).mono ?_
                rintro e w9 ⟨rfl, hB9⟩
                have hbK9 := HBK8.out.later hB9 (Nat.le_refl _)
                have hBc9 := hBc8.trans (hB9.mono hBc8.size)
                clear hrp hB9 hBc8
                generalize zeros (K.size - 1) = Z at *
                go_wp2_with fail
                have hzq : (Z ++ (⟨#[49]⟩ : ByteArray)).size = Z.size + 1 := by rw [ByteArray.size_append]; rfl
                generalize Z ++ (⟨#[49]⟩ : ByteArray) = T at *
                have hb2 := bts_new w9 T (by omega)
                have hb1 := hbK9.later (below_bytes w9 T) (Nat.le_refl _)
                have hBc10 := hBc9.trans ((below_bytes w9 T).mono hBc9.size)
                rw [hzq] at hb2
                generalize Lib.bytesWorld w9 5 T = w10 at *
                refine (HPL.out _ _ _ hb1 hb2).mono ?_
                rintro e w11 ⟨rfl, hB11⟩
                have hBc11 := hBc10.trans (hB11.mono hBc10.size)
                clear hb1 hb2 hB11 hzq kc hBc9 hBc10 hbK9 e1
                go_wp2_with fail
                refine (hm1 _).mono ?_
                rintro e w12 ⟨rfl, hB12⟩
                have hBc12 := hBc11.trans (hB12.mono hBc11.size)
                have kb12 := KB.out.on hBc12
                have cb12 := kb12.cell; have fb12 := kb12.free
                clear hm1
                go_wp2_with fail
                refine bodyPost_ret (v := decE r) (by simp [results, Tryd.results42, go_sem, cb12]) rfl ⟨ret_val (by rw [HFIN2.out]), ?_⟩
                exact (((HB.out.trans (hBc12.mono HB.out.size)).setCell (p := ⟨w.heap.size, 0, none⟩) (Nat.le_refl _) _).setCell (p := ⟨w.heap.size, 1, none⟩) (Nat.le_refl _) _).setCell (p := ⟨w.heap.size, 2, none⟩) (Nat.le_refl _) _
            · have h5 : ¬ (0 : Int) < (i : Int) - (m : Int) := by omega
              obtain ⟨N, hN⟩ : ∃ N, m - i = N := ⟨_, rfl⟩
              have hN4 : N ≤ 40 := by omega
              have hmi : (m : Int) - i = N := by omega
              have i7 : IntKind.i64.wrap ((m : Int) - (i : Int)) = (N : Int) := by rw [hmi]; exact IntWalk.i64_in _ (by omega)
              have hR : madeR neg (fltM F up i m neg) m = madeR neg (dval Q * 10 ^ N) m := by unfold fltM; rw [if_neg hcut, HV.out, hN]
              have hQD : AllDig (Q ++ zeros N) := allDig_app HQD.out (zeros_dig _)
              have hQV : dval (Q ++ zeros N) = dval Q * 10 ^ N := by rw [dval_app, zeros_size, dval_zeros, Nat.add_zero]
              have hm1 := fun W => made_any neg (Q ++ zeros N) m W hQD
              rw [hQV, ← hR] at hm1
              have hrp := fun W => repeat_any N W (by omega)
              have hzs : (9223372036854775807 < Q.size + (zeros N).size) = False := eq_false (by rw [zeros_size]; omega)
              have hS0 : Bts wr.drew u10 Q ∧ Below wc.heap.size wc wr.drew := ⟨HBT.out.drew, hBr.drew⟩
              clear hR hQD hQV hN HBT hBr HV HQD
              obtain ⟨r, hr⟩ : ∃ r, madeR neg (fltM F up i m neg) m = r := ⟨_, rfl⟩
              simp only [hr] at hm1
              have HRE := Lib.hid hr
              clear hr
              go_upto_region 28 with fail
              have i8 : IntKind.i64.wrap (N : Int) = (N : Int) := IntWalk.i64_in _ (by omega)
              clear i6 h1 h2
              have k0 := Bts.conv hS0.1
              go_region_with (first
                  | (go_at_call 51; with_reducible refine (bts_call (hrp _) hS0.1 hS0.2 (Nat.le_refl _)).mono ?_; rintro e w3 ⟨rfl, hS3⟩; have k3 := Bts.conv hS3.1)
                  | (go_at_call 49; with_reducible refine (bts_call (hm1 _) hS3.1 hS3.2 (Nat.le_refl _)).mono ?_; rintro e w4 ⟨rfl, hS4⟩; have kb4 := KB.out.on hS4.2; have cb4 := kb4.cell; have fb4 := kb4.free))
              all_goals
                go_wp2_with fail
                refine bodyPost_ret (v := decE r) (by simp [results, Tryd.results42, go_sem, cb4]) rfl ⟨ret_val (by rw [HRE.out]), ?_⟩
                exact (((HB.out.trans (hS4.2.mono HB.out.size)).setCell (p := ⟨w.heap.size, 0, none⟩) (Nat.le_refl _) _).setCell (p := ⟨w.heap.size, 1, none⟩) (Nat.le_refl _) _).setCell (p := ⟨w.heap.size, 2, none⟩) (Nat.le_refl _) _
end Go.Proofs.YtgccppilhbannaaDoor
