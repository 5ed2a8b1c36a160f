/-
  Laws and contracts taken over from earlier texts (cut out by a program of this seat's own, slice.py), as far as this seat needs them.
-/
import Derived.Test.YtgbemhehbhlgpaaGreatDoorPlDh
namespace Go.Proofs.YtgbemhehbhlgpaaGreatDoor
section
open Go.RowKit Go.PlainAid
/-- The rest of a decimal by a whole number. -/
def modR (ds : ByteArray) (k N : Nat) : Bool × ByteArray × Int × Int := madeR false ((dval ds / 10 ^ k) % N * 10 ^ k + dval ds % 10 ^ k) k

theorem mod_add {a b m : Nat} (ha : a < m) (hb : b < m) : (if m ≤ a + b then a + b - m else a + b) = (a + b) % m := by
  split
  · rw [Nat.mod_eq_sub_mod (by omega), Nat.mod_eq_of_lt (by omega)]
  · rw [Nat.mod_eq_of_lt (by omega)]

set_option maxRecDepth 100000 in
set_option maxHeartbeats 1000000 in
theorem mod_yes {neg : Bool} {ds : ByteArray} {k N : Nat} (hr : rightB neg ds k = true) (hN : 1 ≤ N) (hN2 : N ≤ 9223372036854775807) (w : World) (hP : PowTab w) :
    Calls Tryz.prog 68 #[.agg #[.bool neg, .string ds, .int .i64 k], .int .i64 N] w fun e w' => e = .returned (decE (modR ds k N)) ∧ Below w.heap.size w w' := by
  have hchk := fun W => check_yes hr W
  obtain ⟨h1, h2, h3, h4, _, hd⟩ := of_decide_eq_true hr
  have hpa := fun W => parts_any neg ds k W (by omega) (by omega)
  have hwd := whole_dig hd k
  have hbd := behind_dig' hd k
  have hbs := behind_size ds k
  obtain ⟨hv1, hv2⟩ := dval_parts hd k
  have hws : (wholeT ds k).size ≤ 1000 := by unfold wholeT; rw [size_sub _ _ _ (by omega), partS_size]; omega
  obtain ⟨R, hR⟩ : ∃ R, modR ds k N = R := ⟨_, rfl⟩
  rw [hR]
  unfold modR at hR
  rw [← hv1, ← hv2] at hR
  generalize wholeT ds k = T at *
  generalize behindT ds k = B at *
  have hmd : ∀ r : Nat, r = dval T % N → ∀ W, Calls Tryz.prog 57 #[.bool false, .string (digs r ++ B), .int .i64 k] W fun e w' => e = .returned (decE R) ∧ Below W.heap.size W w' := fun r hr W => by
    have h := made_any false (digs r ++ B) k W (allDig_app (digs_dig r) hbd)
    rw [dval_app, dval_digs, hbs] at h
    rw [← hr] at hR
    rw [hR] at h
    exact h
  have HMD := Lib.hid hmd; have HWD := Lib.hid hwd; have HW1 := Lib.hid hv1
  clear hmd hR hv1 hv2 hbd hr hd
  have hl := low_length T
  have HL := Lib.hid hl
  clear hl
  have HP := Lib.hid hP
  clear hP
  have eN : IntKind.u64.wrap (N : Int) = N := IntWalk.u64_in _ (by omega)
  go_enter Tryz.func68, Tryz.ntmps68
  go_wp2_with fail
  refine (hchk _).mono ?_
  rintro e w1 ⟨rfl, hB1⟩
  have ka := ((Blk.new w _ _).alloc _).on hB1
  have kb := (Blk.new' (w.alloc _) _ _ (w.heap.size + 1) (by simp)).on hB1
  have hBw := (((Below.refl w.heap.size w).alloc (Nat.le_refl _) _).alloc (by simp) _).trans (hB1.mono (by simp; omega))
  have hP1 := HP.out.on hBw
  have HP1 := Lib.hid hP1
  have ca := ka.cell
  clear hB1 hchk hP1
  go_wp2_with fail
  refine (hpa _).mono ?_
  rintro e w2 ⟨rfl, hB2⟩
  have HP2 := Lib.hid (HP1.out.on hB2)
  have ka := ka.on hB2
  have kb := kb.on hB2
  have hBw := hBw.trans (hB2.mono hBw.size)
  clear hB2 hpa ca
  have kc := conv_bytes
  go_wp2_with fail
  have hb1 := bts_new w2 T (by omega)
  have hBa := below_bytes w2 T
  have HP3 := Lib.hid (HP2.out.on hBa)
  have ka := ka.on hBa
  have kb := kb.on hBa
  have hBw := hBw.trans (hBa.mono hBw.size)
  clear kc hBa
  generalize Lib.bytesWorld w2 5 T = w3 at *
  generalize grownCap w2 T.size 0 5 = cp at *
  generalize w2.heap.size = bq at *
  obtain ⟨gx, ox, cx, hvx, hgx, hcx, hmx, hx⟩ := hb1
  obtain ⟨rfl, rfl⟩ : gx = bq ∧ ox = 0 := by
    have h := Value.slice.inj hvx
    have h2 := Option.some.inj h.1
    exact ⟨(congrArg Addr.block h2).symm, (congrArg Addr.off h2).symm⟩
  have HX := Lib.hid hx
  clear hx hvx hcx hmx
  have hml : ∀ x : Nat, x % N < N := fun x => Nat.mod_lt x (by omega)
  have HML := Lib.hid hml
  clear hml hwd
  go_loopg [9, 34] T.size (fun g s9 s34 wr => ∃ i : Nat, i + g = T.size ∧ s34 = .int .i64 (i : Int) ∧ s9 = .int .u64 ((rowval ((low T).drop g) % N : Nat) : Int) ∧ w3 = wr)
  case atStart => exact ⟨0, by omega, rfl, by rw [← HL.out, List.drop_length]; simp [rowval], rfl⟩
  case round =>
    obtain ⟨i, hi, rfl, rfl, rfl⟩ := hrel
    cases gk with
    | zero =>
      have hil : ¬ i < T.size := by omega
      have hR0 : rowval ((low T).drop 0) % N = dval T % N := rfl
      obtain ⟨r, hr⟩ : ∃ r, rowval ((low T).drop 0) % N = r := ⟨_, rfl⟩
      rw [hr] at hR0 ⊢
      have hrN : r < N := by rw [← hr]; exact HML.out _
      have hmd := HMD.out r hR0
      have hds : (digs r).size ≤ 400 ∨ True := .inr trivial
      have hfm := fun W (h : PowTab W) => fmtU r (by omega) W h
      have hdz : (digs r).size ≤ 20 := by
        have h10 : r < 10 ^ 20 := by omega
        have hc := lowD_canon r
        have hv := rowval_lowD r
        have hsz : (digs r).size = (lowD r).length := by unfold digs; rw [textL_size, List.length_reverse]
        rw [hsz]
        apply Classical.byContradiction
        intro e
        have h1 := getD_le (lowD r) ((lowD r).length - 1)
        rw [hv] at h1
        have h2 := hc.2.2 (by omega)
        rw [List.getLast?_eq_getElem?] at h2
        have h3 : (lowD r).getD ((lowD r).length - 1) 0 ≠ 0 := fun g => by
          apply h2
          rw [List.getD_eq_getElem?_getD, List.getElem?_eq_getElem (by omega)] at g
          rw [List.getElem?_eq_getElem (by omega)]
          exact congrArg some g
        have h4 : 10 ^ 20 ≤ 10 ^ ((lowD r).length - 1) := Nat.pow_le_pow_right (by decide) (by omega)
        have h5 : 10 ^ ((lowD r).length - 1) * 1 ≤ 10 ^ ((lowD r).length - 1) * (lowD r).getD ((lowD r).length - 1) 0 := Nat.mul_le_mul_left _ (by omega)
        omega
      have hzs : (9223372036854775807 < (digs r).size + B.size) = False := eq_false (by omega)
      have hS := Hold2.mk ka kb hBw (Nat.le_refl _)
      clear hr hR0 hdz hds hbs
      generalize digs r = tx at *
      go_upto_region 24 with fail
      go_region_held3 (fun w' => (∀ o, w'.cell? ⟨w.heap.size, o, none⟩ = #[Value.bool neg, Value.string ds, Value.int .i64 k][o]?) ∧ Below w.heap.size w w')
        (first | exact hS.one.drew | exact hS3.one | exact hS4.one | exact ((hS4.one.set (w.heap.size + 1) 0 _ (by omega) (by omega)).set (w.heap.size + 1) 1 _ (by omega) (by omega)).set (w.heap.size + 1) 2 _ (by omega) (by omega))
        (first
          | (go_at_call 97; refine (hold_call (hfm _ (HP3.out.on ((Below.refl _ _).drew))) hS.drew).mono ?_; rintro e w4 ⟨rfl, hS3⟩)
          | (go_at_call 57; refine (hold_call (hmd _) hS3).mono ?_; rintro e w5 ⟨rfl, hS4⟩; obtain ⟨_, _, q4, f4, _⟩ := id hS4))
      go_wp2
      refine bodyPost_ret (v := decE R) (by simp [results, Tryz.results68, go_sem, q4]) rfl ⟨rfl, ?_⟩
      exact ((hS4.2.2.2.2.1.setCell (p := ⟨w.heap.size + 1, 0, none⟩) (Nat.le_succ _) _).setCell (p := ⟨w.heap.size + 1, 1, none⟩) (Nat.le_succ _) _).setCell (p := ⟨w.heap.size + 1, 2, none⟩) (Nat.le_succ _) _
    | succ g =>
      have hil : i < T.size := by omega
      have hc := HX.out i hil
      rw [Nat.zero_add] at hc
      obtain ⟨x, hxe⟩ : ∃ x, (low T).getD g 0 = x := ⟨_, rfl⟩
      have hx1 := low_get HWD.out i g hil (by omega)
      have hx9 := getD_lt (low_lt HWD.out) g
      have hdr := rowval_drop (low T) g (by rw [HL.out]; omega)
      rw [hxe] at hx1 hx9 hdr
      rw [hx1] at hc
      obtain ⟨Q, hQ⟩ : ∃ Q, rowval ((low T).drop (g + 1)) = Q := ⟨_, rfl⟩
      rw [hQ] at hdr ⊢
      obtain ⟨r, hr⟩ : ∃ r, Q % N = r := ⟨_, rfl⟩
      rw [hr]
      have hrN : r < N := by rw [← hr]; exact HML.out _
      have hnew : (10 * r + x) % N = rowval ((low T).drop g) % N := by
        rw [hdr, ← hr, Nat.add_comm x, Nat.add_mod (10 * (Q % N)), Nat.mul_mod_mod, ← Nat.add_mod]
      have HNEW := Lib.hid hnew; have HI := Lib.hid hi
      have i3 : IntKind.u8.wrap (48 + (x : Int) - 48) = x := by rw [show 48 + (x : Int) - 48 = x by omega]; exact IntWalk.u8_in _ (by omega)
      have i4 : IntKind.u64.wrap (x : Int) = x := IntWalk.u64_in _ (by omega)
      clear hxe hx1 hdr hQ hr hnew hi
      go_wp2_with fail
      go_loopg [14, 41] 10 (fun j s14 s41 wq => ∃ c : Nat, c + j = 10 ∧ s41 = .int .i64 (c : Int) ∧ s14 = .int .u64 (((c * r) % N : Nat) : Int) ∧ w3 = wq)
      case atStart => exact ⟨0, by omega, rfl, by simp, rfl⟩
      case round =>
        obtain ⟨c, hj, rfl, rfl, rfl⟩ := hrel
        have hcn := HML.out (c * r)
        have hst : ((c + 1) * r) % N = if N ≤ (c * r) % N + r then (c * r) % N + r - N else (c * r) % N + r := by
          rw [mod_add hcn hrN, Nat.mod_add_mod, Nat.add_mul, Nat.one_mul]
        obtain ⟨v, hv⟩ : ∃ v, (c * r) % N = v := ⟨_, rfl⟩
        rw [hv] at hcn hst ⊢
        cases gk with
        | zero =>
          have hc10 : ¬ c < 10 := by omega
          have hce : c = 10 := by omega
          have hxN := HML.out x
          have hfin : (10 * r + x) % N = if N ≤ v + x % N then v + x % N - N else v + x % N := by
            rw [mod_add hcn hxN, Nat.add_mod_mod, ← hv, hce, Nat.mod_add_mod]
          obtain ⟨y, hy⟩ : ∃ y, x % N = y := ⟨_, rfl⟩
          rw [hy] at hfin hxN
          have hyi : (x : Int) % (N : Int) = (y : Int) := by rw [← hy]; push_cast; rfl
          have i5 : IntKind.u64.wrap ((v : Int) + y) = (v : Int) + y := IntWalk.u64_in _ (by omega)
          have i6 : IntKind.u64.wrap (y : Int) = y := IntWalk.u64_in _ (by omega)
          have hN0 : ¬ (N : Int) = 0 := by omega
          have i7 : IntKind.i64.wrap ((i : Int) + 1) = (i : Int) + 1 := IntWalk.i64_in _ (by omega)
          have HCE := Lib.hid hce
          clear hst hv hce hj
          by_cases hge : N ≤ v + y
          · rw [if_pos hge] at hfin
            have hgi : (N : Int) ≤ (v : Int) + y := by omega
            have i8 : IntKind.u64.wrap ((v : Int) + y - N) = ((v + y - N : Nat) : Int) := by rw [show (v : Int) + y - N = ((v + y - N : Nat) : Int) by omega]; exact IntWalk.u64_in _ (by omega)
            have HF := Lib.hid hfin
            clear hfin hge
            go_wp2_with fail
            go_roundg g
            case rel => exact ⟨i + 1, by have := HI.out; omega, by push_cast; rfl, by rw [← HNEW.out, HF.out], rfl⟩
            case measure => omega
          · rw [if_neg hge] at hfin
            have hgi : ¬ (N : Int) ≤ (v : Int) + y := by omega
            have HF := Lib.hid hfin
            clear hfin hge
            go_wp2_with fail
            go_roundg g
            case rel => exact ⟨i + 1, by have := HI.out; omega, by push_cast; rfl, by rw [← HNEW.out, HF.out]; push_cast; rfl, rfl⟩
            case measure => omega
        | succ j =>
          have hc10 : c < 10 := by omega
          have HJ := Lib.hid hj
          have i5 : IntKind.u64.wrap ((v : Int) + r) = (v : Int) + r := IntWalk.u64_in _ (by omega)
          have i7 : IntKind.i64.wrap ((c : Int) + 1) = (c : Int) + 1 := IntWalk.i64_in _ (by omega)
          clear hv hj
          by_cases hge : N ≤ v + r
          · rw [if_pos hge] at hst
            have hgi : (N : Int) ≤ (v : Int) + r := by omega
            have i8 : IntKind.u64.wrap ((v : Int) + r - N) = ((v + r - N : Nat) : Int) := by rw [show (v : Int) + r - N = ((v + r - N : Nat) : Int) by omega]; exact IntWalk.u64_in _ (by omega)
            have HST := Lib.hid hst
            clear hst hge
            go_wp2_with fail
            go_roundg j
            case rel => exact ⟨c + 1, by have := HJ.out; omega, by push_cast; rfl, by rw [HST.out], rfl⟩
            case measure => omega
          · rw [if_neg hge] at hst
            have hgi : ¬ (N : Int) ≤ (v : Int) + r := by omega
            have HST := Lib.hid hst
            clear hst hge
            go_wp2_with fail
            go_roundg j
            case rel => exact ⟨c + 1, by have := HJ.out; omega, by push_cast; rfl, by rw [HST.out]; push_cast; rfl, rfl⟩
            case measure => omega

set_option maxRecDepth 100000 in
set_option maxHeartbeats 2000000 in
theorem mod_no (neg : Bool) (ds : ByteArray) (k n : Int) (w : World) (h : rightB neg ds k = false ∨ (rightB neg ds k = true ∧ n < 1)) :
    Calls Tryz.prog 68 #[.agg #[.bool neg, .string ds, .int .i64 k], .int .i64 n] w fun e w' => e = .returned noneE ∧ Below w.heap.size w w' := by
  rcases h with h | ⟨h, hn⟩
  · have hsc := fun W => check_no h W
    clear h
    go_enter Tryz.func68, Tryz.ntmps68
    go_wp2_with fail
    refine (hsc _).mono ?_
    rintro e w1 ⟨rfl, hB1⟩
    have kb := (Blk.new' (w.alloc _) _ _ (w.heap.size + 1) (by simp)).on hB1
    have hBw := (((Below.refl w.heap.size w).alloc (Nat.le_refl _) _).alloc (by simp) _).trans (hB1.mono (by simp; omega))
    have cr := kb.cell
    have fr := kb.free
    clear hB1 hsc
    go_wp2_with fail
    refine bodyPost_ret (v := noneE) ?_ rfl ⟨rfl, ?_⟩
    · simp [results, Tryz.results68, go_sem, cr]
    · repeat (refine Below.setCell ?_ (Nat.le_succ _) _)
      exact hBw
  all_goals
    have hsc := fun W => check_yes h W
    clear h
    go_enter Tryz.func68, Tryz.ntmps68
    go_wp2_with fail
    refine (hsc _).mono ?_
    rintro e w1 ⟨rfl, hB1⟩
    have kb := (Blk.new' (w.alloc _) _ _ (w.heap.size + 1) (by simp)).on hB1
    have hBw := (((Below.refl w.heap.size w).alloc (Nat.le_refl _) _).alloc (by simp) _).trans (hB1.mono (by simp; omega))
    have cr := kb.cell
    have fr := kb.free
    clear hB1 hsc
    go_wp2_with fail
    refine bodyPost_ret (v := noneE) ?_ rfl ⟨rfl, ?_⟩
    · simp [results, Tryz.results68, go_sem, cr]
    · repeat (refine Below.setCell ?_ (Nat.le_succ _) _)
      exact hBw

end
section
open Go.RowKit Go.PlainAid
theorem lowD_len {n m : Nat} (hn : n < 10 ^ m) (hm : 1 ≤ m) : (lowD n).length ≤ m := by
  have hc := lowD_canon n
  have hv := rowval_lowD n
  apply Classical.byContradiction
  intro e
  have h1 := getD_le (lowD n) ((lowD n).length - 1)
  rw [hv] at h1
  have h2 := hc.2.2 (by omega)
  rw [List.getLast?_eq_getElem?] at h2
  have h3 : (lowD n).getD ((lowD n).length - 1) 0 ≠ 0 := fun g => by
    apply h2
    rw [List.getD_eq_getElem?_getD, List.getElem?_eq_getElem (by omega)] at g
    rw [List.getElem?_eq_getElem (by omega)]
    exact congrArg some g
  have h4 : 10 ^ m ≤ 10 ^ ((lowD n).length - 1) := Nat.pow_le_pow_right (by decide) (by omega)
  have h5 : 10 ^ ((lowD n).length - 1) * 1 ≤ 10 ^ ((lowD n).length - 1) * (lowD n).getD ((lowD n).length - 1) 0 := Nat.mul_le_mul_left _ (by omega)
  omega

/-- The digits of what is left of a number, ahead of those that stand. -/
def fullL (g : Nat) (l : List Nat) : List Nat := if g = 0 then l else (lowD g).reverse ++ l

theorem fullL_step {g : Nat} (l : List Nat) (h : g ≠ 0) : fullL (g / 10) (g % 10 :: l) = fullL g l := by
  unfold fullL
  rw [if_neg h]
  by_cases hg : g < 10
  · rw [if_pos (by omega), lowD_small g hg, Nat.mod_eq_of_lt hg]
    rfl
  · rw [if_neg (by omega), lowD_step g (by omega)]
    simp

abbrev encL (l : List Nat) : List UInt8 := l.map fun d => UInt8.ofNat (48 + d)

theorem ByteRow.lit (w : World) (d : Nat) (hd : d < 10) : ByteRow w.heap.size (w.alloc (.cells #[.int .u8 (48 + (d : Int))] 5)) (.slice (some ⟨w.heap.size, 0, none⟩) 1 1) (encL [d]) := by
  have e : ((UInt8.ofNat (48 + d)).toNat : Int) = 48 + (d : Int) := by
    rw [UInt8.toNat_ofNat']
    omega
  refine ⟨rfl, .inr ⟨w.heap.size, 1, #[.int .u8 (48 + (d : Int))], rfl, Nat.le_refl _, ?_, Nat.le_refl _, by unfold maxLen; omega, rfl, ?_⟩⟩
  · show (w.heap.push _)[w.heap.size]? = _
    simp
  · simp; omega

set_option maxRecDepth 100000 in
set_option maxHeartbeats 2000000 in
theorem rWhole_any (N : Nat) (hN : 1 ≤ N) (hN2 : N ≤ 9223372036854775807) (w : World) :
    Calls Tryz.prog 102 #[.int .i64 N] w fun e w' => e = .returned (.string (digs N)) ∧ Below w.heap.size w w' := by
  have hln : (lowD N).length ≤ 20 := lowD_len (by omega) (by decide)
  have HLN := Lib.hid hln
  have hF : fullL N [] = (lowD N).reverse := by unfold fullL; rw [if_neg (by omega), List.append_nil]
  have HF := Lib.hid hF
  have HN := Lib.hid hN
  clear hln hF hN
  go_enter Tryz.func102, Tryz.ntmps102
  go_wp2_with fail
  go_loopg [0, 3] N (fun g s0 s3 wr => ∃ l : List Nat, s0 = .int .i64 (g : Int) ∧ g ≤ N ∧ (∀ d ∈ l, d < 10) ∧ ByteRow w.heap.size wr s3 (encL l) ∧ fullL g l = (lowD N).reverse ∧ Below w.heap.size w wr)
  case atStart => exact ⟨[], rfl, Nat.le_refl _, by simp, ByteRow.nil _ _, HF.out, Below.refl _ _⟩
  case round =>
    obtain ⟨l, rfl, hgN, hl9, hrow, hfl, hB⟩ := hrel
    have hll : l.length ≤ 20 := by
      have h1 := congrArg List.length hfl
      rw [List.length_reverse] at h1
      have h2 := HLN.out
      unfold fullL at h1
      split at h1
      · omega
      · rw [List.length_append] at h1; omega
    have HFL := Lib.hid hfl; have HL9 := Lib.hid hl9
    clear hfl hl9
    by_cases hg : gk = 0
    · subst hg
      have htx := hrow.text
      have hres : (⟨(encL l).toArray⟩ : ByteArray) = digs N := by
        have h1 := HFL.out
        unfold fullL at h1
        rw [if_pos rfl] at h1
        rw [h1]
        rfl
      have HR := Lib.hid hres
      clear hres
      go_wp2_with fail
      go_ret
      exact ⟨ret_val (by rw [← HR.out]; rfl), hB⟩
    · obtain ⟨d, hd⟩ : ∃ d, gk % 10 = d := ⟨_, rfl⟩
      obtain ⟨q, hq⟩ : ∃ q, gk / 10 = q := ⟨_, rfl⟩
      have hst := fullL_step l hg
      rw [hd, hq] at hst
      have HST := Lib.hid hst
      have hg0 : 0 < gk := by omega
      have d9 : d < 10 := by omega
      have hqg : q < gk := by omega
      have i1 : (gk : Int) % 10 = d := by omega
      have i2 : IntKind.i64.wrap (48 + (d : Int)) = 48 + (d : Int) := IntWalk.i64_in _ (by omega)
      have i3 : IntKind.u8.wrap (48 + (d : Int)) = 48 + (d : Int) := IntWalk.u8_in _ (by omega)
      have i4 : (gk : Int) / 10 = q := by omega
      have i5 : IntKind.i64.wrap (q : Int) = q := IntWalk.i64_in _ (by omega)
      have i6 : IntKind.i64.wrap (d : Int) = d := IntWalk.i64_in _ (by omega)
      have hlit := ByteRow.lit wr d d9
      have hz := hB.size
      obtain ⟨oa, oc, hform, hcell⟩ : ∃ a cap, u3 = .slice a l.length cap ∧ (∀ j (hj : j < l.length), ∃ g, a = some ⟨g, 0, none⟩ ∧ g < wr.heap.size ∧ l.length ≤ cap ∧ wr.cell? ⟨g, j, none⟩ = some (.int .u8 (48 + (l[j] : Int)))) := by
        have hsz : (encL l).length = l.length := List.length_map _
        rcases hrow.read with ⟨e, e2⟩ | ⟨g, cap, e, _, hg, hc, hm, hcell⟩
        · have hl0 : l = [] := by
            have := congrArg List.length e
            rw [hsz] at this
            exact List.eq_nil_of_length_eq_zero this
          exact ⟨none, 0, by rw [e2, hl0]; rfl, fun j hj => by rw [hl0] at hj; exact absurd hj (by simp)⟩
        · refine ⟨some ⟨g, 0, none⟩, cap, by rw [e, hsz], fun j hj => ⟨g, rfl, hg, by omega, ?_⟩⟩
          rw [(hcell j (by omega)).1]
          have e3 : ((encL l)[j]'(by omega)).toNat = 48 + l[j] := by
            rw [List.getElem_map, UInt8.toNat_ofNat']
            have := HL9.out l[j] (List.getElem_mem _)
            omega
          rw [e3]
          push_cast
          rfl
      subst hform
      have HCELL := Lib.hid hcell
      clear hst hd hq hcell hrow
      go_wp2_with fail
      have hB1 : Below wr.heap.size wr (wr.alloc (.cells #[.int .u8 (48 + (d : Int))] 5)) := (Below.refl _ _).alloc (Nat.le_refl _) _
      generalize wr.alloc (.cells #[.int .u8 (48 + (d : Int))] 5) = w4 at *
      clear i1 i2 i3 i6
      go_loopg [4, 5] l.length (fun q' s4 s5 wq => ∃ i : Nat, i + q' = l.length ∧ s5 = .int .i64 (i : Int) ∧ ByteRow wr.heap.size wq s4 (encL (d :: l.take i)) ∧ Below wr.heap.size wr wq)
      case atStart => exact ⟨0, by omega, rfl, hlit, hB1⟩
      case round =>
        obtain ⟨i, hi, rfl, hrow, hB4⟩ := hrel
        have hz4 := hB4.size
        have HI := Lib.hid hi
        cases gk with
        | zero =>
          have hil : ¬ i < l.length := by omega
          have hie : i = l.length := by omega
          rw [hie, List.take_of_length_le (Nat.le_refl _)] at hrow
          have HROW := Lib.hid (hrow.base hz)
          clear hi hie hrow
          go_wp2_with fail
          go_roundg q
          case rel => exact ⟨d :: l, rfl, by omega, fun x hx => by rcases List.mem_cons.1 hx with h | h; { rw [h]; exact d9 }; exact HL9.out x h, HROW.out, by rw [HST.out]; exact HFL.out, hB.trans (hB4.mono hz)⟩
          case measure => exact hqg
        | succ r =>
          have hil : i < l.length := by omega
          obtain ⟨g, hga, hgl, hcap, hc⟩ := HCELL.out i hil
          subst hga
          have hc := (hB4.cell (p := ⟨g, i, none⟩) hgl).trans hc
          obtain ⟨x, hx⟩ : ∃ x, l[i] = x := ⟨_, rfl⟩
          rw [hx] at hc
          have hx9 : x < 10 := by rw [← hx]; exact HL9.out _ (List.getElem_mem _)
          have htk : encL (d :: l.take (i + 1)) = encL (d :: l.take i) ++ [UInt8.ofNat (48 + x)] := by
            rw [List.take_succ_eq_append_getElem hil, hx]
            simp
          have HTK := Lib.hid htk
          have hb : (48 + (x : Int)) = ((UInt8.ofNat (48 + x)).toNat : Int) := by rw [UInt8.toNat_ofNat']; omega
          have HB := Lib.hid hb
          have hlen : (encL (d :: l.take i)).length ≤ 1000000000000 := by simp; omega
          have j1 : IntKind.i64.wrap ((i : Int) + 1) = (i : Int) + 1 := IntWalk.i64_in _ (by omega)
          clear hx htk hb hi
          go_wp2_with (at_builtin; go_must (refine wpList_snoc_byte rfl _ _ rfl _ _ _ (UInt8.ofNat (48 + x)) rfl hrow rfl HB.out hlen hB4 (Nat.le_refl _) (Nat.le_refl _) (by omega) ?_); intro v' w5 hrow5 hB5)
          go_roundg r
          case rel => exact ⟨i + 1, by have := HI.out; omega, by push_cast; rfl, by rw [HTK.out]; exact hrow5, hB5⟩
          case measure => omega

end
end Go.Proofs.YtgbemhehbhlgpaaGreatDoor
