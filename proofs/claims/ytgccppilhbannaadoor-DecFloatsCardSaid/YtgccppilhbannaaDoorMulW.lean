/-
  The walk of dec.Mul.
-/
import Derived.Test.YtgccppilhbannaaDoorAddW
import Derived.Test.YtgccppilhbannaaDoorMulP
import Derived.Lib.OthersKept
import Derived.Deep.LoopGhost
import Derived.StillTailTactics
namespace Go.Proofs.YtgccppilhbannaaDoor
open Go.RowKit Go.PlainAid

theorem Sums.later {B : Nat} {w w' : World} {b n : Nat} {f : Nat → Nat} (h : Sums w b n f) (hB : Below B w w') (hb : b < B) : Sums w' b n f := fun q hq =>
  ⟨(hB.cell (p := ⟨b, q, none⟩) hb).trans (h q hq).1, (hB.frozen (p := ⟨b, q, none⟩) hb).trans (h q hq).2⟩
theorem iter_later {B : Nat} {w w' : World} {k : Nat} {o : Obj} (h : w.heap[k]? = some o) (hB : Below B w w') (hk : k < B) : w'.heap[k]? = some o := (hB.block k hk).trans h
theorem iter_set {w : World} {k : Nat} {o : Obj} (h : w.heap[k]? = some o) (b p : Nat) (v : Value) (hk : k ≠ b) : (w.setCell ⟨b, p, none⟩ v).heap[k]? = some o := (Below.heap_setCell w ⟨b, p, none⟩ v k hk).trans h
theorem iter_at {w : World} {k : Nat} {o : Obj} (h : w.heap[k]? = some o) (j : Nat) (s : ByteArray) (p : Nat) (hk : k ≠ j) : (w.iterAt j s p).heap[k]? = some o := (Lib.iterAt_other w j k s p hk).trans h
theorem dig_ascii {s : ByteArray} (h : AllDig s) (k : Nat) (hk : k < s.size) : (s[k]'hk).toNat < 128 := by
  have h1 := get_bt s k hk
  have h2 := h k hk
  omega

theorem OutI.other {B n i : Nat} {l : List Nat} {w : World} (h : OutI B n l i w) (c p : Nat) (v : Value) (hc : B ≠ c) : OutI B n l i (w.setCell ⟨c, p, none⟩ v) := fun j hj =>
  ⟨(World.cell?_setCell_other _ _ _ _ (fun e => hc (congrArg Addr.block e).symm)).trans (h j hj).1, by rw [World.frozen?_setCell]; exact (h j hj).2⟩
theorem OutI.later {B n i K : Nat} {l : List Nat} {w w' : World} (h : OutI B n l i w) (hB : Below K w w') (hb : B < K) : OutI B n l i w' := fun j hj =>
  ⟨(hB.cell (p := ⟨B, j, none⟩) hb).trans (h j hj).1, (hB.frozen (p := ⟨B, j, none⟩) hb).trans (h j hj).2⟩
/-- A digit more. -/
theorem OutI.snoc {B n m d : Nat} {O : List Nat} {w : World} (h : OutI B n O m w) (hO : O.length = m) (hm : m < n) : OutI B n (O ++ [d]) (m + 1) (w.setCell ⟨B, n - 1 - m, none⟩ (.int .u8 (48 + (d : Int)))) := by
  have h' : OutI B n (O ++ [d]) m w := fun j hj => by
    obtain ⟨a, b⟩ := h j hj
    refine ⟨?_, b⟩
    rw [a]
    by_cases e : n - 1 - j < m
    · rw [if_pos e, if_pos e, List.getD_eq_getElem?_getD, List.getD_eq_getElem?_getD, List.getElem?_append_left (by omega)]
    · rw [if_neg e, if_neg e]
  have h2 := outI_setN h' hm (by simp; omega)
  have e : (O ++ [d])[m]'(by simp; omega) = d := by rw [List.getElem_append_right (by omega)]; simp [hO]
  rw [e] at h2
  exact h2

/-- The product of two decimals. -/
def mulR (n1 : Bool) (d1 : ByteArray) (k1 : Nat) (n2 : Bool) (d2 : ByteArray) (k2 : Nat) : Bool × ByteArray × Int × Int :=
  madeR (n1 != n2) (dval d1 * dval d2) ((k1 : Int) + k2)

set_option maxRecDepth 100000 in
set_option maxHeartbeats 4000000 in
theorem mul_yes {n1 : Bool} {d1 : ByteArray} {k1 : Nat} {n2 : Bool} {d2 : ByteArray} {k2 : Nat} (h1 : rightB n1 d1 k1 = true) (h2 : rightB n2 d2 k2 = true) (w : World) :
    Calls Tryd.prog 29 #[.agg #[.bool n1, .string d1, .int .i64 k1], .agg #[.bool n2, .string d2, .int .i64 k2]] w fun e w' => e = .returned (decE (mulR n1 d1 k1 n2 d2 k2)) ∧ Below w.heap.size w w' := by
  have hbo := fun W => both_yes h1 h2 W
  obtain ⟨a1, a2, a3, a4, _, a6⟩ := of_decide_eq_true h1
  obtain ⟨b1, b2, b3, b4, _, b6⟩ := of_decide_eq_true h2
  have A6 := Lib.hid a6; have B6 := Lib.hid b6
  clear h1 h2 a6 b6
  obtain ⟨n, hn⟩ : ∃ n, d1.size + d2.size = n := ⟨_, rfl⟩
  have e1 : IntKind.i64.wrap ((d1.size : Int) + d2.size) = (n : Int) := by rw [show (d1.size : Int) + d2.size = n by omega]; exact IntWalk.i64_in _ (by omega)
  have HN := Lib.hid hn
  have n8 : n ≤ 800 := by omega
  clear hn
  have hmk : ∀ W : World, (Instr.makeSlice 40 (.int .i64 (n : Int)) (.int .i64 (n : Int))).run Tryd.prog W = .ok (.slice (some ⟨W.heap.size, 0, none⟩) n n) (W.alloc (.cells (madeCells #[.int .i64 0] n) 3)) := fun W => run_make_row' (P := Tryd.prog) 40 3 (.int .i64 0) 8 Tryd.underlying40 infoInt rfl .i64 .i64 n (by omega) (by omega) W
  go_enter Tryd.func29, Tryd.ntmps29
  go_wp2_with fail
  refine (hbo _).mono ?_
  rintro e w1 ⟨rfl, hB1⟩
  have ka := (((Blk.new w _ _).alloc _).alloc _).on hB1
  have kb := ((Blk.new' (w.alloc _) _ _ (w.heap.size + 1) (by simp)).alloc _).on hB1
  have kr := (Blk.new' ((w.alloc _).alloc _) _ _ (w.heap.size + 2) (by simp)).on hB1
  have hBw := ((((Below.refl w.heap.size w).alloc (Nat.le_refl _) _).alloc (by simp) _).alloc (by simp; omega) _).trans (hB1.mono (by simp; omega))
  have ca := ka.cell
  have cb := kb.cell
  have la := ka.lt
  have lb := kb.lt
  clear hbo hB1
  go_wp2_with fail
  have hO : Sums (w1.alloc (.cells (madeCells #[.int .i64 0] n) 3)) w1.heap.size n (fun p => (List.replicate n 0).getD (n - 1 - p) 0) := fun j hj => by
    refine ⟨?_, ?_⟩
    · rw [World.cell?_alloc_mark, ← Array.getElem?_toList, toList_madeCells_one, List.getElem?_replicate, if_pos hj]
      simp only [List.getD_eq_getElem?_getD, List.getElem?_replicate]
      split <;> rfl
    · rw [World.frozen?_alloc_mark]; simp
  have hB0 : Below w1.heap.size w1 ((w1.alloc (.cells (madeCells #[.int .i64 0] n) 3)).iter d1 0) := ((Below.refl _ _).alloc (Nat.le_refl _) _).alloc (by simp) _
  have hI0 : ((w1.alloc (.cells (madeCells #[.int .i64 0] n) 3)).iter d1 0).heap[w1.heap.size + 1]? = some (.stringIter d1 0) := by
    have h := World.iter_heap (w1.alloc (.cells (madeCells #[.int .i64 0] n) 3)) d1 0
    rwa [World.size_alloc] at h
  have hO0 := hO.later (B := (w1.alloc (.cells (madeCells #[.int .i64 0] n) 3)).heap.size) ((Below.refl _ _).alloc (Nat.le_refl _) (.stringIter d1 0)) (by simp)
  have hz0 : w1.heap.size + 1 < ((w1.alloc (.cells (madeCells #[.int .i64 0] n) 3)).iter d1 0).heap.size := by simp [World.iter]
  change Sums ((w1.alloc (.cells (madeCells #[.int .i64 0] n) 3)).iter d1 0) _ _ _ at hO0
  clear hO hmk
  generalize (w1.alloc (.cells (madeCells #[.int .i64 0] n) 3)).iter d1 0 = w2 at *
  have HO := Lib.hid hO0; have HI := Lib.hid hI0
  clear hO0 hI0 ca cb
  go_loopg [] d1.size (fun m wr => ∃ R : List Nat, m ≤ d1.size ∧ wr.heap[w1.heap.size + 1]? = some (.stringIter d1 (d1.size - m)) ∧ R.length = n ∧ Sums wr w1.heap.size n (fun p => R.getD (n - 1 - p) 0) ∧ rowval R = pvd (low d1) m * dval d2 ∧ (∀ j, R.getD j 0 ≤ 81 * ((d1.size - m) * 400)) ∧ Below w1.heap.size w1 wr ∧ w1.heap.size + 1 < wr.heap.size)
  case atStart => exact ⟨List.replicate n 0, Nat.le_refl _, by rw [Nat.sub_self]; exact HI.out, List.length_replicate, HO.out, by rw [rowval_zeros, ← low_length, pvd_end, Nat.zero_mul], fun j => by rw [List.getD_eq_getElem?_getD, List.getElem?_replicate]; split <;> simp, hB0, hz0⟩
  case round =>
    obtain ⟨R, hm, hit, hRl, hS, hV, hbd, hB, hz⟩ := hrel
    have HV := Lib.hid hV; have HBD := Lib.hid hbd; have HRL := Lib.hid hRl
    clear hV hbd hRl
    cases gk with
    | zero =>
      have hnx := fun ty => Lib.run_next_end_at (P := Tryd.prog) wr (w1.heap.size + 1) d1 (d1.size - 0) ty hit (by omega)
      clear hit
      have hmk : ∀ W : World, (Instr.makeSlice 76 (.int .i64 (n : Int)) (.int .i64 (n : Int))).run Tryd.prog W = .ok (.slice (some ⟨W.heap.size, 0, none⟩) n n) (W.alloc (.cells (madeCells #[.int .u8 0] n) 5)) := fun W => run_make_row' (P := Tryd.prog) 76 5 (.int .u8 0) 1 Tryd.underlying76 infoByte rfl .i64 .i64 n (by omega) (by omega) W
      have hBo : OutI wr.heap.size n [] 0 (wr.alloc (.cells (madeCells #[.int .u8 0] n) 5)) := fun j hj => by
        refine ⟨?_, ?_⟩
        · rw [World.cell?_alloc_mark, ← Array.getElem?_toList, toList_madeCells_one, List.getElem?_replicate, if_pos hj, if_neg (by omega)]
        · rw [World.frozen?_alloc_mark]; simp
      have hS2 : Sums (wr.alloc (.cells (madeCells #[.int .u8 0] n) 5)) w1.heap.size n (fun p => R.getD (n - 1 - p) 0) := hS.later (B := wr.heap.size) ((Below.refl _ _).alloc (Nat.le_refl _) _) (by omega)
      have hB2 : Below w1.heap.size w1 (wr.alloc (.cells (madeCells #[.int .u8 0] n) 5)) := hB.alloc (by omega) _
      go_wp2_with fail
      clear hmk hnx hS hB
      generalize wr.alloc (.cells (madeCells #[.int .u8 0] n) 5) = w3 at *
      have hz3 : w1.heap.size + 1 < wr.heap.size := hz
      generalize wr.heap.size = Q at *
      have HBo := Lib.hid hBo; have HS2 := Lib.hid hS2
      clear hBo hS2 hz
      obtain ⟨T, hT⟩ : ∃ T, dval d1 * dval d2 = T := ⟨_, rfl⟩
      have hV := HV.out
      rw [pvd_zero] at hV
      change rowval R = dval d1 * dval d2 at hV
      rw [hT] at hV
      have hTn : T < 10 ^ n := by
        rw [← hT, ← HN.out, Nat.pow_add]
        exact Nat.mul_lt_mul_of_lt_of_le (dval_lt A6.out) (Nat.le_of_lt (dval_lt B6.out)) (Nat.pow_pos (by decide))
      have HV2 := Lib.hid hV; have HT := Lib.hid hT; have HTN := Lib.hid hTn
      have HB12 : ∀ j, R.getD j 0 ≤ 12960000 := fun j => Nat.le_trans (HBD.out j) (by omega)
      have HBD := Lib.hid HB12
      clear hV hT hTn HV HB12
      go_loopg [11] n (fun g i wq => ∃ O R' : List Nat, g ≤ n ∧ i = .int .i64 ((g : Int) - 1) ∧ R'.length = n ∧ O.length = n - g ∧ (∀ d ∈ O, d < 10) ∧ rowval O + 10 ^ (n - g) * rowval (R'.drop (n - g)) = T ∧ OutI Q n O (n - g) wq ∧ Sums wq w1.heap.size n (fun p => R'.getD (n - 1 - p) 0) ∧ (∀ j, R'.getD j 0 ≤ 25920000) ∧ (∀ j, n - g < j → R'.getD j 0 ≤ 12960000) ∧ Below w1.heap.size w1 wq)
      case atStart => exact ⟨[], R, Nat.le_refl _, rfl, HRL.out, by simp, by simp, by rw [Nat.sub_self]; simp [rowval]; exact HV2.out, by rw [Nat.sub_self]; exact HBo.out, HS2.out, fun j => Nat.le_trans (HBD.out j) (by omega), fun j _ => HBD.out j, hB2⟩
      case round =>
        obtain ⟨O, R', hg, rfl, hRl, hOl, hO9, hval, hO, hS, hb2, hb1, hB⟩ := hrel
        cases gk with
        | zero =>
          have hvO : rowval O = T := by
            have h1 := hval
            have h3 : R'.drop (n - 0) = [] := List.drop_of_length_le (by omega)
            rw [h3] at h1
            simpa [rowval] using h1
          rw [Nat.sub_zero] at hO hOl
          obtain ⟨z, hz⟩ : ∃ z, n = z + 1 := ⟨n - 1, by have := HN.out; omega⟩
          have hby := hO
          rw [hz] at hby
          have hby := outI_text hby (by omega) hO9
          rw [← hz, List.take_of_length_le (by omega)] at hby
          have hdg : AllDig (textL O.reverse) := textL_dig (fun d hd => hO9 d (by simpa using hd))
          have hdv : dval (textL O.reverse) = dval d1 * dval d2 := by rw [dval_textL _ (fun d hd => hO9 d (by simpa using hd)), List.reverse_reverse, hvO, HT.out]
          have hsz : (textL O.reverse).size = n := by rw [textL_size, List.length_reverse, hOl]
          have hback := Lib.run_convert_whole (P := Tryd.prog) wr 76 5 9 Tryd.underlying76 Tryd.underlying5 Tryd.underlying9 _ _ _ hby n
          rw [hsz] at hback
          have hmd := fun W => made_any (n1 != n2) (textL O.reverse) ((k1 : Int) + k2) W hdg
          rw [hdv] at hmd
          obtain ⟨M, hM⟩ : ∃ M, madeR (n1 != n2) (dval d1 * dval d2) ((k1 : Int) + k2) = M := ⟨_, rfl⟩
          rw [hM] at hmd
          obtain ⟨tx, htx⟩ : ∃ tx, textL O.reverse = tx := ⟨_, rfl⟩
          rw [htx] at hback hmd
          have i1 : IntKind.i64.wrap ((k1 : Int) + k2) = (k1 : Int) + k2 := IntWalk.i64_in _ (by omega)
          have ca := (ka.later hB la).cell
          have cb := (kb.later hB lb).cell
          have lr := kr.lt
          have kr := kr.later hB lr
          have hBw2 := hBw.trans (hB.mono hBw.size)
          have HMM := Lib.hid hM
          clear hM htx hdv hdg hsz hby hz hvO hval hb1 hb2 hO9 hOl hRl
          go_wp2_with fail
          refine (hmd _).mono ?_
          rintro e w7 ⟨rfl, hB7⟩
          have kr := kr.on hB7
          have hBw3 := hBw2.trans (hB7.mono hBw2.size)
          have cr := kr.cell
          have fr := kr.free
          clear ca cb hmd hback
          go_wp2_with fail
          refine bodyPost_ret (v := decE M) ?_ rfl ⟨ret_val (by rw [← HMM.out]; rfl), ?_⟩
          · simp [results, Tryd.results29, go_sem, cr]
          · repeat (refine Below.setCell ?_ (by show w.heap.size ≤ w.heap.size + 2; omega) _)
            exact hBw3
        | succ p =>
          rw [show ((p + 1 : Nat) : Int) - 1 = (p : Int) by omega]
          obtain ⟨m, hm⟩ : ∃ m, n - (p + 1) = m := ⟨_, rfl⟩
          rw [hm] at hOl hval hO hb1
          have hjm : n - 1 - p = m := by omega
          have hs1 := hS p (by omega)
          change _ = some (Value.int _ ((R'.getD (n - 1 - p) 0 : Nat) : Int)) ∧ _ at hs1
          rw [hjm] at hs1
          obtain ⟨o1, o2⟩ := hO p (by omega)
          rw [if_neg (by omega)] at o1
          obtain ⟨r, hr⟩ : ∃ r, R'.getD m 0 = r := ⟨_, rfl⟩
          rw [hr] at hs1
          have hr2 : r ≤ 25920000 := by rw [← hr]; exact hb2 m
          obtain ⟨d, hd⟩ : ∃ d, r % 10 = d := ⟨_, rfl⟩
          have hd9 : d < 10 := by omega
          have hO2 := hO.snoc (d := d) hOl (by omega)
          rw [show n - 1 - m = p by omega] at hO2
          have hS2 := hS.other Q p (.int .u8 (48 + (d : Int))) (by omega)
          have hB2 := hB.setCell (p := ⟨Q, p, none⟩) (by show w1.heap.size ≤ Q; omega) (.int .u8 (48 + (d : Int)))
          have hO92 : ∀ x ∈ O ++ [d], x < 10 := fun x hx => by
            rcases List.mem_append.1 hx with h | h
            · exact hO9 x h
            · rw [List.mem_singleton.1 h]; exact hd9
          have s1 := hs1.1
          have d0 : (r : Int) % 10 = (d : Int) := by omega
          have d1' : IntKind.u8.wrap (d : Int) = d := IntWalk.u8_in _ (by omega)
          have d2' : IntKind.u8.wrap (48 + (d : Int)) = 48 + (d : Int) := IntWalk.u8_in _ (by omega)
          have HHR := Lib.hid hr; have HHD := Lib.hid hd; have HM := Lib.hid hm; have HVAL := Lib.hid hval; have HOL := Lib.hid hOl; have HRL2 := Lib.hid hRl
          have HB2 := Lib.hid hb2; have HB1 := Lib.hid hb1; have HO92 := Lib.hid hO92; have HO2 := Lib.hid hO2
          clear hr hd hjm hval hOl hO9 hO hb1 hb2 hS hB hRl hs1 hO92 hO2
          by_cases hp0 : p = 0
          · subst hp0
            have hrt : r < 10 := by
              have h1 := HVAL.out
              have h2 := rowval_drop R' m (by rw [HRL2.out]; have := HM.out; omega)
              rw [HHR.out] at h2
              have h3 : 10 ^ m * r ≤ 10 ^ m * rowval (R'.drop m) := Nat.mul_le_mul_left _ (by omega)
              have h4 := HTN.out
              rw [show n = m + 1 by have := HM.out; omega, Nat.pow_succ] at h4
              have hp := Nat.pow_pos (n := m) (show 0 < 10 by decide)
              apply Classical.byContradiction
              intro e
              have : 10 ^ m * 10 ≤ 10 ^ m * r := Nat.mul_le_mul_left _ (by omega)
              omega
            have hrd : d = r := by have := HHD.out; omega
            have hval2 : rowval (O ++ [d]) + 10 ^ (m + 1) * rowval (R'.drop (m + 1)) = T := by
              have h1 := HVAL.out
              have h2 := rowval_drop R' m (by rw [HRL2.out]; have := HM.out; omega)
              have h3 : R'.drop (m + 1) = [] := List.drop_of_length_le (by rw [HRL2.out]; have := HM.out; omega)
              rw [HHR.out, h3] at h2
              rw [h2] at h1
              rw [h3, rowval_append, HOL.out, hrd]
              simp only [rowval] at h1 ⊢
              simpa using h1
            have HVAL2 := Lib.hid hval2
            clear hval2 hrd hrt
            go_wp2_with fail
            go_roundg 0
            case rel => exact ⟨O ++ [d], R', Nat.zero_le _, rfl, HRL2.out, by rw [List.length_append, HOL.out]; have := HM.out; simp; omega, HO92.out, by rw [show n - 0 = m + 1 by have := HM.out; omega]; exact HVAL2.out, by rw [show n - 0 = m + 1 by have := HM.out; omega]; exact HO2.out, hS2, HB2.out, fun j hj => HB1.out j (by have := HM.out; omega), hB2⟩
            case measure => omega
          · obtain ⟨q, hq⟩ : ∃ q, p - 1 = q := ⟨_, rfl⟩
            have hjq : n - 1 - q = m + 1 := by have := HM.out; omega
            have hs2 := hS2 q (by omega)
            change _ = some (Value.int _ ((R'.getD (n - 1 - q) 0 : Nat) : Int)) ∧ _ at hs2
            rw [hjq] at hs2
            have hr1 := HB1.out (m + 1) (by omega)
            have hcs := carry_step (R := R') (O := O) (T := T) (by rw [HRL2.out]; omega) HOL.out HVAL.out
            rw [HHR.out, HHD.out] at hcs
            obtain ⟨r1, hr1e⟩ : ∃ r1, R'.getD (m + 1) 0 = r1 := ⟨_, rfl⟩
            rw [hr1e] at hs2 hr1 hcs
            obtain ⟨c, hc⟩ : ∃ c, r / 10 = c := ⟨_, rfl⟩
            rw [hc] at hcs
            obtain ⟨v, hv⟩ : ∃ v, r1 + c = v := ⟨_, rfl⟩
            rw [hv] at hcs
            have hsn := fun W (h : Sums W w1.heap.size n (fun p => R'.getD (n - 1 - p) 0)) => h.set (g := fun p => (R'.set (m + 1) v).getD (n - 1 - p) 0) q v (by omega) (fun x hx => by
              show (R'.set (m + 1) v).getD (n - 1 - x) 0 = _
              rw [getD_set _ _ _ _ (by rw [HRL2.out]; omega)]
              by_cases e : x = q
              · rw [if_pos (by omega), if_pos e]
              · rw [if_neg (by omega), if_neg e])
            have hb2n : ∀ j, (R'.set (m + 1) v).getD j 0 ≤ 25920000 := fun j => by
              rw [getD_set _ _ _ _ (by rw [HRL2.out]; omega)]
              have := HB2.out j
              split <;> omega
            have hb1n : ∀ j, m + 1 < j → (R'.set (m + 1) v).getD j 0 ≤ 12960000 := fun j hj => by
              rw [getD_set _ _ _ _ (by rw [HRL2.out]; omega), if_neg (by omega)]
              exact HB1.out j (by omega)
            have HSN := Lib.hid hsn; have HCS := Lib.hid hcs; have HB2N := Lib.hid hb2n; have HB1N := Lib.hid hb1n; have HQ := Lib.hid hq; have HV := Lib.hid hv
            have q0 : ¬ p = 0 := hp0
            have q1 : 0 < p := by omega
            have i1 : IntKind.i64.wrap ((p : Int) - 1) = q := by rw [show (p : Int) - 1 = q by omega]; exact IntWalk.i64_in _ (by omega)
            have i2 : (r : Int) / 10 = c := by omega
            have i3 : IntKind.i64.wrap ((r1 : Int) + c) = (v : Int) := by rw [show (r1 : Int) + c = v by omega]; exact IntWalk.i64_in _ (by omega)
            have i4 : IntKind.i64.wrap (c : Int) = c := IntWalk.i64_in _ (by omega)
            have s3 := (hS2 p (by omega)).1
            change _ = some (Value.int _ ((R'.getD (n - 1 - p) 0 : Nat) : Int)) at s3
            rw [show n - 1 - p = m by omega, HHR.out] at s3
            have s2 := hs2.1
            have f2 := hs2.2
            have qn : q < n := by omega
            have pn : p < n := by omega
            clear hsn hcs hb2n hb1n hq hv hs2 hr1e hc hp0 hjq
            go_upto_region 18 with fail
            generalize hw4 : wr.setCell ⟨Q, p, none⟩ (.int .u8 (48 + (d : Int))) = w4 at *
            have hO4 := HO2.out
            clear hw4
            have hB6 : Below w1.heap.size w1 w4.drew := hB2.drew
            have hS6 : Sums w4.drew w1.heap.size n (fun p => R'.getD (n - 1 - p) 0) := hS2.later (B := w4.heap.size) ((Below.refl _ _).drew) (World.block_lt_of_cell? w4 ⟨w1.heap.size, q, none⟩ s2)
            have hO6 : OutI Q n (O ++ [d]) (m + 1) w4.drew := fun j hj => hO4 j hj
            have s2' : w4.drew.cell? ⟨w1.heap.size, q, none⟩ = some (.int .i64 (r1 : Int)) := s2
            have f2' : w4.drew.frozen? ⟨w1.heap.size, q, none⟩ = false := f2
            go_still_tail 12, (by kernel_rfl)
            change wpList _ _ _ _ _ w4.drew
            generalize w4.drew = w6 at *
            have HS6 := Lib.hid hS6; have HO6 := Lib.hid hO6
            clear hS6 hO6 hB2 hS2 s2 s3 f2 hO4
            go_wp2_with fail
            go_roundg p
            case rel => exact ⟨O ++ [d], R'.set (m + 1) v, by omega, by rw [show (p : Int) - 1 = (q : Int) by have := HQ.out; omega], by rw [List.length_set]; exact HRL2.out, by rw [List.length_append, HOL.out]; have := HM.out; simp; omega, HO92.out, by rw [show n - p = m + 1 by have := HM.out; omega]; exact HCS.out, by rw [show n - p = m + 1 by have := HM.out; omega]; exact HO6.out.other _ _ _ (by omega), HSN.out _ HS6.out, HB2N.out, fun j hj => HB1N.out j (by have := HM.out; omega), hB6.setCell (p := ⟨w1.heap.size, q, none⟩) (Nat.le_refl _) _⟩
            case measure => omega
    | succ m =>
      obtain ⟨i, hi⟩ : ∃ i, d1.size - (m + 1) = i := ⟨_, rfl⟩
      rw [hi] at hit
      have hid : i < d1.size := by omega
      have hnx := fun ty => Lib.run_next_ascii_at (P := Tryd.prog) wr (w1.heap.size + 1) d1 i ty hit hid (dig_ascii A6.out i hid)
      have hit2 := Lib.iterAt_heap wr (w1.heap.size + 1) d1 i (i + 1) hit
      have hB2 := Lib.below_iterAt hB (show w1.heap.size ≤ w1.heap.size + 1 by omega) d1 (i + 1)
      have hS2 := hS.later (Lib.below_iterAt (Below.refl (w1.heap.size + 1) wr) (Nat.le_refl _) d1 (i + 1)) (by omega)
      have hz2 : w1.heap.size + 1 < (wr.iterAt (w1.heap.size + 1) d1 (i + 1)).heap.size := by rw [Lib.iterAt_size]; exact hz
      have ca := (ka.later hB2 la).cell
      have cb := (kb.later hB2 lb).cell
      have HI := Lib.hid hi
      obtain ⟨x, hx⟩ : ∃ x, (low d1).getD m 0 = x := ⟨_, rfl⟩
      have hx1 := low_get A6.out i m hid (by have := HI.out; omega)
      have hx9 := getD_lt (low_lt A6.out) m
      have hpv := pvd_step (low d1) m (by rw [low_length]; omega)
      rw [hx] at hx1 hx9 hpv
      have HPV := Lib.hid hpv
      simp only [get_bt d1 i hid, hx1] at hnx
      clear hS hB hz hit hi hx hpv
      generalize wr.iterAt (w1.heap.size + 1) d1 (i + 1) = w3 at *
      go_wp2_with fail
      have hJ := World.iter_heap w3 d2 0
      have hI4 : (w3.iter d2 0).heap[w1.heap.size + 1]? = some (.stringIter d1 (i + 1)) := iter_later hit2 ((Below.refl _ _).alloc (Nat.le_refl _) (.stringIter d2 0)) hz2
      have hS4 : Sums (w3.iter d2 0) w1.heap.size n (fun p => R.getD (n - 1 - p) 0) := hS2.later ((Below.refl _ _).alloc (Nat.le_refl _) (.stringIter d2 0)) (by omega)
      have hB4 : Below w1.heap.size w1 (w3.iter d2 0) := hB2.alloc (by omega) _
      have hz4 : (w3.iter d2 0).heap.size = w3.heap.size + 1 := by simp [World.iter]
      clear ca cb hit2 hB2 hS2 hnx
      generalize w3.iter d2 0 = w4 at *
      generalize w3.heap.size = J at *
      have HJ := Lib.hid hJ; have HI4 := Lib.hid hI4; have HS4 := Lib.hid hS4
      clear hJ hI4 hS4
      go_loopg [] d2.size (fun q wq => ∃ R' : List Nat, q ≤ d2.size ∧ wq.heap[J]? = some (.stringIter d2 (d2.size - q)) ∧ wq.heap[w1.heap.size + 1]? = some (.stringIter d1 (i + 1)) ∧ R'.length = n ∧ Sums wq w1.heap.size n (fun p => R'.getD (n - 1 - p) 0) ∧ rowval R' = pvd (low d1) (m + 1) * dval d2 + x * 10 ^ m * pvd (low d2) q ∧ (∀ j, R'.getD j 0 ≤ 81 * (i * 400 + (d2.size - q))) ∧ Below w1.heap.size w1 wq ∧ J < wq.heap.size)
      case atStart => exact ⟨R, Nat.le_refl _, by rw [Nat.sub_self]; exact HJ.out, HI4.out, HRL.out, HS4.out, by have h := pvd_end (low d2); rw [low_length] at h; rw [HV.out, h, Nat.mul_zero]; rfl, fun j => by have := HBD.out j; rw [HI.out] at this; omega, hB4, by omega⟩
      case round =>
        obtain ⟨R', hq, hjt, hit, hRl, hS, hV, hbd, hB, hz⟩ := hrel
        have HV' := Lib.hid hV; have HBD' := Lib.hid hbd; have HRL' := Lib.hid hRl
        clear hV hbd hRl
        cases gk with
        | zero =>
          have hnx := fun ty => Lib.run_next_end_at (P := Tryd.prog) wr J d2 (d2.size - 0) ty hjt (by omega)
          have HIT := Lib.hid hit
          clear hjt hit
          go_wp2_with fail
          go_roundg m
          case rel => exact ⟨R', by omega, by rw [show d1.size - m = i + 1 by have := HI.out; omega]; exact HIT.out, HRL'.out, hS, by rw [HV'.out, HPV.out, pvd_zero, Nat.add_mul, Nat.add_comm]; rfl, fun j => by have := HBD'.out j; rw [show d1.size - m = i + 1 by have := HI.out; omega]; omega, hB, by omega⟩
          case measure => omega
        | succ q =>
          obtain ⟨k, hk⟩ : ∃ k, d2.size - (q + 1) = k := ⟨_, rfl⟩
          rw [hk] at hjt
          have hkd : k < d2.size := by omega
          have hnx := fun ty => Lib.run_next_ascii_at (P := Tryd.prog) wr J d2 k ty hjt hkd (dig_ascii B6.out k hkd)
          have hjt2 := Lib.iterAt_heap wr J d2 k (k + 1) hjt
          have hit2 := iter_at hit J d2 (k + 1) (by omega)
          have hB2 := Lib.below_iterAt hB (show w1.heap.size ≤ J by omega) d2 (k + 1)
          have hS2 := hS.later (Lib.below_iterAt (Below.refl J wr) (Nat.le_refl _) d2 (k + 1)) (by omega)
          have hz2' : J < (wr.iterAt J d2 (k + 1)).heap.size := by rw [Lib.iterAt_size]; exact hz
          have HK := Lib.hid hk; have HJT := Lib.hid hjt2; have HIT := Lib.hid hit2
          clear hS hB hz hjt hit hk hjt2 hit2
          generalize wr.iterAt J d2 (k + 1) = w5 at *
          have ca := (ka.later hB2 la).cell
          have cb := (kb.later hB2 lb).cell
          obtain ⟨y, hy⟩ : ∃ y, (low d2).getD q 0 = y := ⟨_, rfl⟩
          have hy1 := low_get B6.out k q hkd (by have := HK.out; omega)
          have hy9 := getD_lt (low_lt B6.out) q
          have hpv2 := pvd_step (low d2) q (by rw [low_length]; omega)
          rw [hy] at hy1 hy9 hpv2
          have HPV2 := Lib.hid hpv2
          clear hy hpv2
          have hp0 : i + k + 1 < n := by have := HN.out; omega
          have hjq : n - 1 - (i + k + 1) = m + q := by have := HN.out; have := HI.out; have := HK.out; omega
          have hs1 := hS2 (i + k + 1) hp0
          change _ = some (Value.int _ ((R'.getD (n - 1 - (i + k + 1)) 0 : Nat) : Int)) ∧ _ at hs1
          rw [hjq] at hs1
          have hrb := HBD'.out (m + q)
          obtain ⟨r, hr⟩ : ∃ r, R'.getD (m + q) 0 = r := ⟨_, rfl⟩
          have hstep := mul_step (R := R') (i := m) (j := q) (x := x) (y := y) (A := pvd (low d1) (m + 1)) (B := pvd (low d2) (q + 1)) (V := dval d2) (by rw [HRL'.out]; have := HN.out; omega) HV'.out
          have hxy : x * y ≤ 81 := Nat.le_trans (Nat.mul_le_mul (show x ≤ 9 by omega) (show y ≤ 9 by omega)) (by decide)
          rw [hr] at hs1 hrb hstep
          obtain ⟨v, hv⟩ : ∃ v, r + x * y = v := ⟨_, rfl⟩
          have hbnew : ∀ j, (R'.set (m + q) v).getD j 0 ≤ 81 * (i * 400 + (d2.size - q)) := fun j => by
            have h := HBD'.out j
            rw [getD_set _ _ _ _ (by rw [HRL'.out]; have := HN.out; omega)]
            have := HK.out
            split <;> omega
          have HBN := Lib.hid hbnew
          have hsn := fun W (h : Sums W w1.heap.size n (fun p => R'.getD (n - 1 - p) 0)) => h.set (g := fun p => (R'.set (m + q) v).getD (n - 1 - p) 0) (i + k + 1) v hp0 (fun p hp => by
            show (R'.set (m + q) v).getD (n - 1 - p) 0 = _
            rw [getD_set _ _ _ _ (by rw [HRL'.out]; have := HN.out; omega)]
            by_cases e : p = i + k + 1
            · rw [if_pos (by omega), if_pos e]
            · rw [if_neg (by omega), if_neg e])
          have HSN := Lib.hid hsn; have HST := Lib.hid hstep; have HR := Lib.hid hr; have HVV := Lib.hid hv
          have i1 : IntKind.i64.wrap ((i : Int) + k) = (i : Int) + k := IntWalk.i64_in _ (by omega)
          have i2 : IntKind.i64.wrap ((i : Int) + k + 1) = (i : Int) + k + 1 := IntWalk.i64_in _ (by omega)
          have i3 : IntKind.u8.wrap (48 + (x : Int) - 48) = x := by rw [show 48 + (x : Int) - 48 = x by omega]; exact IntWalk.u8_in _ (by omega)
          have i4 : IntKind.u8.wrap (48 + (y : Int) - 48) = y := by rw [show 48 + (y : Int) - 48 = y by omega]; exact IntWalk.u8_in _ (by omega)
          have i3' : IntKind.i64.wrap (x : Int) = x := IntWalk.i64_in _ (by omega)
          have i4' : IntKind.i64.wrap (y : Int) = y := IntWalk.i64_in _ (by omega)
          have hxyi : ((x * y : Nat) : Int) = (x : Int) * y := by push_cast; rfl
          have i5 : IntKind.i64.wrap ((x : Int) * y) = (x : Int) * y := by rw [← hxyi]; exact IntWalk.i64_in _ (by omega)
          have i6 : IntKind.i64.wrap ((r : Int) + (x : Int) * y) = (v : Int) := by rw [← hxyi, show (r : Int) + ((x * y : Nat) : Int) = v by omega]; exact IntWalk.i64_in _ (by omega)
          have g1 : (0 : Int) ≤ (i : Int) + k + 1 := by omega
          have g2 : (i : Int) + k + 1 < n := by omega
          have g3 : ((i : Int) + k + 1).toNat = i + k + 1 := by omega
          have hb1 := get_bt d1
          have hb2 := get_bt d2
          have s1 := hs1.1
          have s2 := hs1.2
          clear hsn hstep hr hv hbnew hs1 hjq hxyi
          go_upto_region 11 with fail
          have hB6 : Below w1.heap.size w1 w5.drew := hB2.drew
          have hS6 : Sums w5.drew w1.heap.size n (fun p => R'.getD (n - 1 - p) 0) := hS2.later (B := w5.heap.size) ((Below.refl _ _).drew) (by omega)
          have hJ6 : w5.drew.heap[J]? = some (.stringIter d2 (k + 1)) := HJT.out
          have hI6 : w5.drew.heap[w1.heap.size + 1]? = some (.stringIter d1 (i + 1)) := HIT.out
          have hz6 : J < w5.drew.heap.size := hz2'
          have s1' : w5.drew.cell? ⟨w1.heap.size, i + k + 1, none⟩ = some (.int .i64 (r : Int)) := s1
          have s2' : w5.drew.frozen? ⟨w1.heap.size, i + k + 1, none⟩ = false := s2
          go_still_tail 22, (by kernel_rfl)
          change wpList _ _ _ _ _ w5.drew
          generalize w5.drew = w6 at *
          have HJ6 := Lib.hid hJ6; have HI6 := Lib.hid hI6; have HS6 := Lib.hid hS6
          clear hJ6 hI6 hS6 ca cb hB2 hS2 hnx s1 s2 hb1 hb2 hz2' HJT HIT
          go_wp2_with fail
          go_roundg q
          case rel => exact ⟨R'.set (m + q) v, by omega, by rw [show d2.size - q = k + 1 by have := HK.out; omega]; exact iter_set HJ6.out _ _ _ (by omega), iter_set HI6.out _ _ _ (by omega), by rw [List.length_set]; exact HRL'.out, HSN.out _ HS6.out, by rw [← HVV.out, HST.out, HPV2.out, Nat.add_comm (pvd (low d2) (q + 1))], HBN.out, hB6.setCell (p := ⟨w1.heap.size, i + k + 1, none⟩) (Nat.le_refl _) _, by simpa [World.setCell] using hz6⟩
          case measure => omega
set_option maxRecDepth 100000 in
set_option maxHeartbeats 1000000 in
theorem mul_no {n1 : Bool} {d1 : ByteArray} {k1 : Int} {n2 : Bool} {d2 : ByteArray} {k2 : Int} (h : rightB n1 d1 k1 = false ∨ rightB n2 d2 k2 = false) (w : World) :
    Calls Tryd.prog 29 #[.agg #[.bool n1, .string d1, .int .i64 k1], .agg #[.bool n2, .string d2, .int .i64 k2]] w fun e w' => e = .returned noneE ∧ Below w.heap.size w w' := by
  have hbo := fun W => both_no h W
  clear h
  go_enter Tryd.func29, Tryd.ntmps29
  go_wp2_with fail
  refine (hbo _).mono ?_
  rintro e w1 ⟨rfl, hB1⟩
  have kr := (Blk.new' ((w.alloc _).alloc _) _ _ (w.heap.size + 2) (by simp)).on hB1
  have hBw := ((((Below.refl w.heap.size w).alloc (Nat.le_refl _) (.cells #[.bool n1, .string d1, .int .i64 k1] 23)).alloc (by simp) (.cells #[.bool n2, .string d2, .int .i64 k2] 23)).alloc (by simp; omega) _).trans (hB1.mono (by simp; omega))
  have cr := kr.cell
  have fr := kr.free
  clear hbo hB1
  go_wp2_with fail
  refine bodyPost_ret ?_ rfl ⟨rfl, ?_⟩
  · simp [results, Tryd.results29, go_sem, cr]
  · repeat (refine Below.setCell ?_ (by show w.heap.size ≤ w.heap.size + 2; omega) _)
    exact hBw
end Go.Proofs.YtgccppilhbannaaDoor
