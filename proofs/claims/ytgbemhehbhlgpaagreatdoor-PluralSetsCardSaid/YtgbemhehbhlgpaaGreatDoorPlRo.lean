/-
  Rules for numbers, the document's answer: whole numbers, operands of a decimal.
-/
import Derived.Test.YtgbemhehbhlgpaaGreatDoorPlRb
import Derived.Test.YtgbemhehbhlgpaaGreatDoorPlDj
import Derived.Deep.Cut
import Derived.Deep.DeepCutAuto
namespace Go.Proofs.YtgbemhehbhlgpaaGreatDoor
open Go.RowKit Go.PlainAid

theorem made_whole {n : Nat} (h : (digs n).size ≤ 400) : decE (madeR false n 0) = .tuple #[.agg #[.bool false, .string (digs n), .int .i64 0], .int .i64 0] := by
  unfold madeR
  rw [if_neg (by omega)]
  rfl
set_option maxRecDepth 100000 in
set_option maxHeartbeats 1000000 in
theorem rWh_any (n : Nat) (hn : n < 10 ^ 18) (w : World) : Calls Tryz.prog 76 #[.int .i64 (n : Int)] w fun e w' => e = .returned (.agg #[.bool false, .string (digs n), .int .i64 0]) ∧ Below w.heap.size w w' := by
  have hA := (Below.refl w.heap.size w).alloc (Nat.le_refl _) (.cells #[.bool false, .string ⟨#[]⟩, .int .i64 0] 23)
  have kR := Blk.new w #[.bool false, .string ⟨#[]⟩, .int .i64 0] 23
  have hdg := rDigits_any n hn (w.alloc (.cells #[.bool false, .string ⟨#[]⟩, .int .i64 0] 23))
  have hsz : (digs n).size ≤ 400 := Nat.le_trans (digs_le hn (by decide)) (by decide)
  have hmk := made_whole hsz
  have hlen := lowD_len hn (by decide)
  have h10 : ∀ d ∈ lowD n, d < 10 := fun d hd => (lowD_canon n).2.1 d hd
  have hrv := rowval_lowD n
  have HLEN := Lib.hid hlen; have HMK := Lib.hid hmk; have HRV := Lib.hid hrv
  generalize digs n = D at *
  clear hn hsz hmk hlen hrv
  go_enter Tryz.func76, Tryz.ntmps76
  go_wp2_with fail
  generalize w.alloc (.cells #[.bool false, .string ⟨#[]⟩, .int .i64 0] 23) = w0 at *
  refine hdg.mono ?_
  rintro e w1 ⟨v, rfl, hrow, hB1⟩
  have hmd := rMade_any false v (lowD n) 0 w0.heap.size w1 h10 (by have := HLEN.out; omega) hrow
  rw [HRV.out, HMK.out] at hmd
  have hB1' := hA.trans (hB1.mono hA.size)
  have kR1 := kR.on hB1
  clear hdg h10 hrow kR
  go_wp2_with fail
  refine hmd.mono ?_
  rintro e w2 ⟨rfl, hB2⟩
  have hB := hB1'.trans (hB2.mono hB1'.size)
  have hA2 := (Below.refl w2.heap.size w2).alloc (Nat.le_refl _) (.cells #[.bool false, .string D, .int .i64 0] 23)
  have hB3 := hB.trans (hA2.mono hB.size)
  have kR2 := (kR1.on hB2).on hA2
  have kX := Blk.new w2 #[.bool false, .string D, .int .i64 0] 23
  clear hmd hA2 kR1
  go_upto_region 2 with fail
  generalize w2.alloc (.cells #[.bool false, .string D, .int .i64 0] 23) = w3 at *
  have xc := kX.cell
  have rc := kR2.cell
  have rf := kR2.free
  go_wp2_with fail
  have kf := ((kR2.set 0 (.bool false)).set 1 (.string D)).set 2 (.int .i64 0)
  have hbf := ((hB3.setCell (p := ⟨w.heap.size, 0, none⟩) (Nat.le_refl _) (.bool false)).setCell (p := ⟨w.heap.size, 1, none⟩) (Nat.le_refl _) (.string D)).setCell (p := ⟨w.heap.size, 2, none⟩) (Nat.le_refl _) (.int .i64 0)
  generalize ((w3.setCell ⟨w.heap.size, 0, none⟩ (.bool false)).setCell ⟨w.heap.size, 1, none⟩ (.string D)).setCell ⟨w.heap.size, 2, none⟩ (.int .i64 0) = w9 at *
  have r0 := kf.cell 0; have r1 := kf.cell 1; have r2 := kf.cell 2
  simp at r0 r1 r2
  exact bodyPost_ret (v := .agg #[.bool false, .string D, .int .i64 0]) (by simp [results, Tryz.results76, go_sem, r0, r1, r2]) rfl ⟨rfl, hbf⟩

theorem rowval_nul : ∀ n, rowval (List.replicate n 0) = 0
  | 0 => rfl
  | n + 1 => by rw [List.replicate_succ]; simp [rowval, rowval_nul n]
theorem rowval_parts {l : List Nat} (hl : ∀ d ∈ l, d < 10) {k : Nat} (hk : k ≤ l.length) : rowval (l.take k) = rowval l % 10 ^ k ∧ rowval (l.drop k) = rowval l / 10 ^ k := by
  have h := rowval_append (l.take k) (l.drop k)
  rw [List.take_append_drop, List.length_take, Nat.min_eq_left hk] at h
  have hlt := rowval_pad_lt hl k
  have hp : 0 < 10 ^ k := Nat.pow_pos (by decide)
  rw [h]
  constructor
  · rw [Nat.add_mul_mod_self_left, Nat.mod_eq_of_lt hlt]
  · rw [Nat.add_comm, Nat.mul_add_div hp, Nat.div_eq_of_lt hlt, Nat.add_zero]
theorem rowH_val (ds : ByteArray) (k : Nat) : rowval (rowH ds k) = dval ds := by
  rw [rowH_eq, rowval_append, rowval_nul, Nat.mul_zero, Nat.add_zero]
  rfl
theorem lz_is : ∀ (l : List Nat) (i : Nat), i ≤ l.length → (∀ j, j < i → l.getD j 0 = 0) → (i = l.length ∨ l.getD i 0 ≠ 0) → lz l = i
  | [], i, h, _, _ => by
    have : i = 0 := by simpa using h
    subst this
    rfl
  | d :: l, 0, _, _, h => by
    have hd : d ≠ 0 := by
      rcases h with h | h
      · simp at h
      · simpa using h
    unfold lz
    rw [List.takeWhile_cons]
    simp [hd]
  | d :: l, i + 1, hi, h0, h => by
    have hd : d = 0 := by simpa using h0 0 (by omega)
    have ih := lz_is l i (by simp at hi; omega) (fun j hj => by simpa using h0 (j + 1) (by omega)) (by simpa using h)
    subst hd
    unfold lz at ih ⊢
    rw [List.takeWhile_cons]
    simp [ih]

/-- An operand as a decimal. -/
def opV (o : Int) (ds : ByteArray) (k : Nat) : Value := .agg #[.bool false, .string (digs (opD o ds k).1), .int .i64 ((opD o ds k).2 : Int)]
set_option maxRecDepth 100000 in
set_option maxHeartbeats 8000000 in
theorem rOper_any {neg : Bool} {ds : ByteArray} {k : Nat} (hr : rightB neg ds k = true) (o : Int) (ho : o = 110 ∨ o = 105 ∨ o = 102 ∨ o = 116 ∨ o = 118 ∨ o = 119) (w : World) :
    Calls Tryz.prog 72 #[.agg #[.bool neg, .string ds, .int .i64 k], .int .u8 o] w fun e w' => e = .returned (opV o ds k) ∧ Below w.heap.size w w' := by
  have hns := opD_ns hr o
  obtain ⟨a1, a2, a3, a4, a5, a6⟩ := of_decide_eq_true hr
  have hrd := right_digs hr
  have hk4 : k ≤ 400 := by omega
  have hA1 := (Below.refl w.heap.size w).alloc (Nat.le_refl _) (.cells #[.bool neg, .string ds, .int .i64 k] 23)
  have kD := Blk.new w #[.bool neg, .string ds, .int .i64 k] 23
  generalize hw1 : w.alloc (.cells #[.bool neg, .string ds, .int .i64 k] 23) = w1 at *
  have z1 : w1.heap.size = w.heap.size + 1 := by rw [← hw1]; simp
  have HW1 := Lib.hid hw1
  have hA2' := (Below.refl w1.heap.size w1).alloc (Nat.le_refl _) (.cells #[.bool false, .string ⟨#[]⟩, .int .i64 0] 23)
  have hA2 := hA1.trans (hA2'.mono hA1.size)
  have kR := Blk.new w1 #[.bool false, .string ⟨#[]⟩, .int .i64 0] 23
  rw [z1] at kR
  have kD2 := kD.on hA2'
  generalize hw2 : w1.alloc (.cells #[.bool false, .string ⟨#[]⟩, .int .i64 0] 23) = w2 at *
  have HW2 := Lib.hid hw2
  have z2 : w2.heap.size = w.heap.size + 2 := by rw [← hw2]; simp [z1]
  have hrow := rRow_any neg ds (k : Int) (k : Int) w2 a6 (by omega) (by omega) (by omega)
  have e00 : rowOf ds ((k : Int) - k).toNat = (dl ds).reverse := by
    rw [show ((k : Int) - k).toNat = 0 by omega]
    rfl
  rw [e00] at hrow
  have hdll : (dl ds).reverse.length = ds.size := by rw [List.length_reverse, dl_length]
  have HNS := Lib.hid hns; have HK4 := Lib.hid hk4; have HA6 := Lib.hid a6; have HRD := Lib.hid hrd; have HO := Lib.hid ho; have HDL := Lib.hid hdll; have HA12 := Lib.hid (And.intro a1 a2)
  have hk0 : (0 : Int) ≤ k := by omega
  clear hr hns hrd ho a1 a2 a3 a4 a5 a6 hw1 hw2 e00 hdll hA1 hA2' kD hk4
  go_enter Tryz.func72, Tryz.ntmps72
  go_upto_region 1 with fail
  rw [HW1.out, HW2.out]
  have dc := kD2.cell
  go_wp2_with fail
  refine hrow.mono ?_
  rintro e w3 ⟨v, rfl, hv, hB3⟩
  have hB3' := hA2.trans (hB3.mono hA2.size)
  have kD3 := kD2.on hB3
  have kR3 := kR.on hB3
  clear hrow dc kD2 kR hA2
  go_wp2_with fail
  go_loopg [5] (k + 1) (fun g s5 wr => ∃ i : Nat, k + 1 ≤ g + (ds.size + i) ∧ (ds.size + i ≤ k + 1 ∨ i = 0) ∧ IntRow w2.heap.size wr s5 ((dl ds).reverse ++ List.replicate i 0) ∧ Blk wr w.heap.size #[.bool neg, .string ds, .int .i64 k] ∧ Blk wr (w.heap.size + 1) #[.bool false, .string ⟨#[]⟩, .int .i64 0] ∧ Below w.heap.size w wr ∧ w2.heap.size ≤ wr.heap.size)
  case atStart => exact ⟨0, by omega, .inr rfl, by rw [List.replicate_zero, List.append_nil]; exact hv, kD3, kR3, hB3', hB3.size⟩
  case round =>
    obtain ⟨i, hg, hi, hrow, kDr, kRr, hBr, hzr⟩ := hrel
    have hll : ((dl ds).reverse ++ List.replicate i 0).length = ds.size + i := by rw [List.length_append, List.length_replicate, HDL.out]
    obtain ⟨va, vc, rfl⟩ := hrow.form _ hll
    have dc := kDr.cell
    by_cases hle : ds.size + i ≤ k
    · have hI : ((ds.size + i : Nat) : Int) ≤ k := by omega
      have hI2 : (ds.size : Int) + i ≤ k := by omega
      have hlen : ((dl ds).reverse ++ List.replicate i 0).length ≤ 1000000000000 := by rw [hll]; have := HK4.out; omega
      have HG := Lib.hid hg; have HLE := Lib.hid hle
      have hrep : (dl ds).reverse ++ List.replicate (i + 1) 0 = ((dl ds).reverse ++ List.replicate i 0) ++ [0] := by rw [List.append_assoc, ← List.replicate_succ']
      have HREP := Lib.hid hrep
      clear hg hi hle hll hrep
      go_wp2_with (at_builtin; go_must (refine wpList_snoc_int rfl _ _ rfl w2.heap.size _ ((dl ds).reverse ++ List.replicate i 0) 0 rfl hrow rfl rfl hlen (Below.refl w2.heap.size _) (Nat.le_trans (Nat.le_refl _) hzr) (Nat.le_refl _) hzr ?_); intro v' w5 hrow5 hB5)
      have hBr5 := hBr.trans (hB5.mono (by omega))
      go_roundg (k + 1 - (ds.size + (i + 1)))
      case rel => exact ⟨i + 1, by omega, by have := HLE.out; omega, by rw [HREP.out]; exact hrow5, kDr.later hB5 (by omega), kRr.later hB5 (by omega), hBr5, Nat.le_trans hzr hB5.size⟩
      case measure => have := HG.out; have := HLE.out; omega
    · have hii : i = k + 1 - ds.size := by omega
      have hR : (dl ds).reverse ++ List.replicate i 0 = rowH ds k := by rw [rowH_eq, hii]
      rw [hR] at hrow
      have hRl : (rowH ds k).length = ds.size + i := by rw [← hR, hll]
      have hI : ¬ ((ds.size + i : Nat) : Int) ≤ k := by omega
      have hI2 : ¬ (ds.size : Int) + i ≤ k := by omega
      obtain ⟨n, hn⟩ : ∃ n, ds.size + i = n := ⟨_, rfl⟩
      have hnb : n ≤ 1000 := by have := HK4.out; have := HA12.out; omega
      have HNB := Lib.hid hnb
      clear hnb
      rw [hn] at hRl hle hI ⊢
      have hnI : ¬ (n : Int) ≤ k := by omega
      have hkn : (k : Int) < n := by omega
      rcases hrow.read with ⟨h0, _⟩ | ⟨gr, cap, hv, _, hgr, hcap, hmx, hcell⟩
      · rw [h0] at hRl
        have : n = 0 := by simpa using hRl.symm
        omega
      rw [hRl] at hv hcap
      injection hv with hv1 _ hv2
      subst hv1 hv2
      have hlow : lowB ds k = (rowH ds k).take k := rfl
      have hR10 : ∀ d ∈ rowH ds k, d < 10 := fun d hd => by
        rw [rowH_eq] at hd
        rcases List.mem_append.1 hd with h | h
        · exact dl_lt HA6.out d (by simpa using h)
        · rw [List.eq_of_mem_replicate h]; decide
      have hcell : ∀ j, j < n → wr.cell? ⟨gr, j, none⟩ = some (.int .i64 (((rowH ds k).getD j 0 : Nat) : Int)) := fun j hj => by
        have h := (hcell j (by omega)).1
        rw [h, List.getD_eq_getElem?_getD, List.getElem?_eq_getElem (by omega)]
        rfl
      have hgd : ∀ j, j < k → (lowB ds k).getD j 0 = (rowH ds k).getD j 0 := fun j hj => by
        rw [hlow, List.getD_eq_getElem?_getD, List.getD_eq_getElem?_getD, List.getElem?_take_of_lt hj]
      have HR := Lib.hid hR; have HRL := Lib.hid hRl; have HN := Lib.hid hn; have HLE := Lib.hid hle; have HR10 := Lib.hid hR10; have HC := Lib.hid hcell; have HGD := Lib.hid hgd; have HROW := Lib.hid hrow; have HMX := Lib.hid hmx; have HCAP := Lib.hid hcap; have HGR := Lib.hid hgr
      clear hR hRl hn hle hR10 hcell hgd hrow hlow hmx hcap hi hg hii hll hgr
      go_wp2_with fail
      go_loopg [6] (k + 1) (fun g s6 wx => ∃ i : Nat, s6 = .int .i64 (i : Int) ∧ g + i = k + 1 ∧ i ≤ k ∧ (∀ j, j < i → (rowH ds k).getD j 0 = 0) ∧ wr = wx)
      case atStart => exact ⟨0, rfl, rfl, Nat.zero_le _, fun j hj => absurd hj (Nat.not_lt_zero j), rfl⟩
      case round =>
        obtain ⟨i, rfl, hg, hi, hz, rfl⟩ := hrel
        have HG := Lib.hid hg; have HZ := Lib.hid hz
        have hi0 : (0 : Int) ≤ i := by omega
        by_cases hgo : i < k ∧ (rowH ds k).getD i 0 = 0
        · have hc := HC.out i (by have := HLE.out; omega)
          rw [hgo.2] at hc
          have j1 : (i : Int) < k := by have := hgo.1; omega
          have j2 : (i : Int) < n := by omega
          have f1 : IntKind.i64.wrap ((i : Int) + 1) = (i : Int) + 1 := IntWalk.i64_in _ (by have := HK4.out; omega)
          have hz' : ∀ j, j < i + 1 → (rowH ds k).getD j 0 = 0 := fun j hj => by
            by_cases e : j = i
            · rw [e]; exact hgo.2
            · exact hz j (by omega)
          have HZ2 := Lib.hid hz'; have HGO := Lib.hid hgo
          clear hz hz' hgo hg hi
          go_wp2_with fail
          go_roundg (k - i)
          case rel => exact ⟨i + 1, by simp, by have := HG.out; have := HGO.out; omega, HGO.out.1, HZ2.out, rfl⟩
          case measure => have := HG.out; have := HGO.out; omega
        · have hlz : lz (lowB ds k) = i := lz_is _ i (by rw [lowB_length]; exact hi) (fun j hj => by rw [HGD.out j (by omega)]; exact hz j hj) (by
            rw [lowB_length]
            by_cases e : i = k
            · exact .inl e
            · exact .inr (by rw [HGD.out i (by omega)]; exact fun h => hgo ⟨by omega, h⟩))
          have HLZ := Lib.hid hlz; have HGO := Lib.hid hgo; have HI := Lib.hid hi
          clear hz hg hlz hgo hi
          go_upto_region 5 with fail
          go_cut [30] (fun s30 wx => s30 = .bool false ∧ wr = wx)
          case first =>
            by_cases e : i = k
            · have j1 : ¬ (i : Int) < k := by omega
              clear e
              go_wp2_with fail
              go_meet
              case rel => exact ⟨rfl, rfl⟩
            · have hik : i < k := by have := HI.out; omega
              have j1 : (i : Int) < k := by omega
              have j2 : (i : Int) < n := by omega
              have hc := HC.out i (by omega)
              have hnz : ((((rowH ds k).getD i 0 : Nat) : Int) == 0) = false := by
                have h : (rowH ds k).getD i 0 ≠ 0 := fun h => HGO.out ⟨hik, h⟩
                have h : (((rowH ds k).getD i 0 : Nat) : Int) ≠ 0 := by omega
                simpa using h
              generalize (((rowH ds k).getD i 0 : Nat) : Int) = D at *
              go_wp2_with fail
              go_meet
              case rel => exact ⟨rfl, rfl⟩
          case rest =>
            obtain ⟨rfl, rfl⟩ := hcut
            have dc := kDr.cell
            have hA4 := (Below.refl wr.heap.size wr).alloc (Nat.le_refl _) (.cells #[.bool false, .string ds, .int .i64 k] 23)
            have kX := Blk.new wr #[.bool false, .string ds, .int .i64 k] 23
            have kD4 := kDr.on hA4
            have kR4 := kRr.on hA4
            have hB4 := hBr.trans (hA4.mono hBr.size)
            have hints := HROW.out.ints.later hA4 (Nat.le_refl _)
            have hz4 : w.heap.size + 1 < wr.heap.size := kRr.lt
            have HCW := Lib.hid (show ∀ j, j < n → (wr.alloc (.cells #[.bool false, .string ds, .int .i64 k] 23)).cell? ⟨gr, j, none⟩ = some (.int .i64 (((rowH ds k).getD j 0 : Nat) : Int)) from fun j hj => (hA4.cell (p := ⟨gr, j, none⟩) HGR.out).trans (HC.out j hj))
            have HGR4 := Lib.hid (Nat.lt_of_lt_of_le HGR.out hA4.size)
            clear kDr kRr hBr hA4
            go_upto_region 8 with fail
            generalize wr.alloc (.cells #[.bool false, .string ds, .int .i64 k] 23) = w4 at *
            clear dc
            have dc := kD4.cell
            have xc := kX.cell
            have xf := kX.free
            have rc := kR4.cell
            have rf := kR4.free
            have hkc : k < vc := by have := HCAP.out; have := HLE.out; omega
            have hkc0 : ¬ vc = k := by omega
            have hkc1 : ¬ vc ≤ k := by omega
            have hkc2 : ¬ vc - k = 0 := by omega
            have hkcI : (k : Int) < vc := by omega
            have hik := HI.out
            have hikI : (i : Int) ≤ k := by omega
            have hnk : (k : Int) ≤ n := by omega
            have hin : (i : Int) ≤ n := by omega
            have hcv : (n : Int) ≤ vc := by have := HCAP.out; omega
            have hkv : (k : Int) ≤ vc := by omega
            have hCW : ∀ j, j < n → w4.cell? ⟨gr, j, none⟩ = some (.int .i64 (((rowH ds k).getD j 0 : Nat) : Int)) := HCW.out
            have hIW : ∀ (a b : Nat), a ≤ b → b ≤ n → a < vc → ∀ c, b - a ≤ c → c ≤ maxLen → Ints w4 (.slice (some ⟨gr, a, none⟩) (b - a) c) (((rowH ds k).take b).drop a) := fun a b hab hbn hav c hc hm => by
              have hll : (((rowH ds k).take b).drop a).length = b - a := by rw [List.length_drop, List.length_take, HRL.out, Nat.min_eq_left hbn]
              refine .inr ⟨gr, a, c, by rw [hll], HGR4.out, by rw [hll]; exact hc, hm, fun j hj => ?_⟩
              rw [hll] at hj
              rw [hCW (a + j) (by omega), List.getElem_drop, List.getElem_take, List.getD_eq_getElem?_getD, List.getElem?_eq_getElem (by have := HRL.out; omega)]
              rfl
            have HIW := Lib.hid hIW
            clear hCW hIW
            have hns := HNS.out
            rcases HO.out with rfl | rfl | rfl | rfl | rfl | rfl
            · have hov : opV 110 ds k = .agg #[.bool false, .string ds, .int .i64 (k : Int)] := by
                show Value.agg #[.bool false, .string (digs (dval ds)), .int .i64 (k : Int)] = _
                rw [HRD.out]
              have HOV := Lib.hid hov
              clear hov
              go_wp2_with fail
              have kf := ((kR4.set 0 (.bool false)).set 1 (.string ds)).set 2 (.int .i64 (k : Int))
              have hbf := ((hB4.setCell (p := ⟨w.heap.size + 1, 0, none⟩) (Nat.le_succ _) (.bool false)).setCell (p := ⟨w.heap.size + 1, 1, none⟩) (Nat.le_succ _) (.string ds)).setCell (p := ⟨w.heap.size + 1, 2, none⟩) (Nat.le_succ _) (.int .i64 (k : Int))
              generalize ((w4.setCell ⟨w.heap.size + 1, 0, none⟩ (.bool false)).setCell ⟨w.heap.size + 1, 1, none⟩ (.string ds)).setCell ⟨w.heap.size + 1, 2, none⟩ (.int .i64 (k : Int)) = w9 at *
              have r0 := kf.cell 0; have r1 := kf.cell 1; have r2 := kf.cell 2
              simp at r0 r1 r2
              exact bodyPost_ret (v := .agg #[.bool false, .string ds, .int .i64 (k : Int)]) (by simp [results, Tryz.results72, go_sem, r0, r1, r2]) rfl ⟨by rw [HOV.out], hbf⟩
            · have hm := made_whole (n := dval ds / 10 ^ k) hns.1
              have hov : opV 105 ds k = .agg #[.bool false, .string (digs (dval ds / 10 ^ k)), .int .i64 0] := rfl
              have hrv : rowval (((rowH ds k).take n).drop k) = dval ds / 10 ^ k := by
                rw [List.take_of_length_le (by rw [HRL.out]; exact Nat.le_refl _), (rowval_parts HR10.out (by rw [HRL.out]; omega)).2, rowH_val]
              have hmd := rMade_ints false _ _ 0 w4 (fun d hd => HR10.out d ((List.take_sublist _ _).subset ((List.drop_sublist _ _).subset hd))) (by rw [List.length_drop, List.length_take, HRL.out]; have := HNB.out; omega) (HIW.out k n (by omega) (Nat.le_refl _) hkc (vc - k) (by have := HCAP.out; omega) (by have := HMX.out; omega))
              rw [hrv, hm] at hmd
              generalize digs (dval ds / 10 ^ k) = D at *
              have HOV := Lib.hid hov
              clear hm hrv hov
              go_wp2_with fail
              refine hmd.mono ?_
              rintro e w6 ⟨rfl, hB6⟩
              have hB6' := hB4.trans (hB6.mono hB4.size)
              have kX6 := ((kX.on hB6).set 0 (.bool false)).set 1 (.string D) |>.set 2 (.int .i64 0)
              have kR6 := (((kR4.on hB6).other wr.heap.size 0 (.bool false) (by omega)).other wr.heap.size 1 (.string D) (by omega)).other wr.heap.size 2 (.int .i64 0) (by omega)
              have hb6 := ((hB6'.setCell (p := ⟨wr.heap.size, 0, none⟩) (by show w.heap.size ≤ wr.heap.size; omega) (.bool false)).setCell (p := ⟨wr.heap.size, 1, none⟩) (by show w.heap.size ≤ wr.heap.size; omega) (.string D)).setCell (p := ⟨wr.heap.size, 2, none⟩) (by show w.heap.size ≤ wr.heap.size; omega) (.int .i64 0)
              have xc6 := (kX.on hB6).cell
              have xf6 := (kX.on hB6).free
              clear dc xc xf rc rf hmd hints
              go_upto_region 10 with fail
              generalize ((w6.setCell ⟨wr.heap.size, 0, none⟩ (.bool false)).setCell ⟨wr.heap.size, 1, none⟩ (.string D)).setCell ⟨wr.heap.size, 2, none⟩ (.int .i64 0) = w7 at *
              clear xc6 xf6
              have xc := kX6.cell
              have rc := kR6.cell
              have rf := kR6.free
              go_wp2_with fail
              have kf := ((kR6.set 0 (.bool false)).set 1 (.string D)).set 2 (.int .i64 0)
              have hbf := ((hb6.setCell (p := ⟨w.heap.size + 1, 0, none⟩) (Nat.le_succ _) (.bool false)).setCell (p := ⟨w.heap.size + 1, 1, none⟩) (Nat.le_succ _) (.string D)).setCell (p := ⟨w.heap.size + 1, 2, none⟩) (Nat.le_succ _) (.int .i64 0)
              generalize ((w7.setCell ⟨w.heap.size + 1, 0, none⟩ (.bool false)).setCell ⟨w.heap.size + 1, 1, none⟩ (.string D)).setCell ⟨w.heap.size + 1, 2, none⟩ (.int .i64 0) = w9 at *
              have r0 := kf.cell 0; have r1 := kf.cell 1; have r2 := kf.cell 2
              simp at r0 r1 r2
              exact bodyPost_ret (v := .agg #[.bool false, .string D, .int .i64 0]) (by simp [results, Tryz.results72, go_sem, r0, r1, r2]) rfl ⟨by rw [HOV.out], hbf⟩
            · have hm := made_whole (n := dval ds % 10 ^ k) hns.1
              have hov : opV 102 ds k = .agg #[.bool false, .string (digs (dval ds % 10 ^ k)), .int .i64 0] := rfl
              have hrv : rowval (((rowH ds k).take k).drop 0) = dval ds % 10 ^ k := by
                rw [List.drop_zero, (rowval_parts HR10.out (by rw [HRL.out]; omega)).1, rowH_val]
              have hmd := rMade_ints false _ _ 0 w4 (fun d hd => HR10.out d ((List.take_sublist _ _).subset ((List.drop_sublist _ _).subset hd))) (by rw [List.length_drop, List.length_take, HRL.out]; have := HNB.out; omega) (HIW.out 0 k (Nat.zero_le _) (by omega) (by omega) vc (by omega) (by have := HMX.out; omega))
              have e0 : k - 0 = k := rfl
              rw [e0] at hmd
              rw [hrv, hm] at hmd
              generalize digs (dval ds % 10 ^ k) = D at *
              have HOV := Lib.hid hov
              clear hm hrv hov
              go_wp2_with fail
              refine hmd.mono ?_
              rintro e w6 ⟨rfl, hB6⟩
              have hB6' := hB4.trans (hB6.mono hB4.size)
              have kX6 := ((kX.on hB6).set 0 (.bool false)).set 1 (.string D) |>.set 2 (.int .i64 0)
              have kR6 := (((kR4.on hB6).other wr.heap.size 0 (.bool false) (by omega)).other wr.heap.size 1 (.string D) (by omega)).other wr.heap.size 2 (.int .i64 0) (by omega)
              have hb6 := ((hB6'.setCell (p := ⟨wr.heap.size, 0, none⟩) (by show w.heap.size ≤ wr.heap.size; omega) (.bool false)).setCell (p := ⟨wr.heap.size, 1, none⟩) (by show w.heap.size ≤ wr.heap.size; omega) (.string D)).setCell (p := ⟨wr.heap.size, 2, none⟩) (by show w.heap.size ≤ wr.heap.size; omega) (.int .i64 0)
              have xc6 := (kX.on hB6).cell
              have xf6 := (kX.on hB6).free
              clear dc xc xf rc rf hmd hints
              go_upto_region 12 with fail
              generalize ((w6.setCell ⟨wr.heap.size, 0, none⟩ (.bool false)).setCell ⟨wr.heap.size, 1, none⟩ (.string D)).setCell ⟨wr.heap.size, 2, none⟩ (.int .i64 0) = w7 at *
              clear xc6 xf6
              have xc := kX6.cell
              have rc := kR6.cell
              have rf := kR6.free
              go_wp2_with fail
              have kf := ((kR6.set 0 (.bool false)).set 1 (.string D)).set 2 (.int .i64 0)
              have hbf := ((hb6.setCell (p := ⟨w.heap.size + 1, 0, none⟩) (Nat.le_succ _) (.bool false)).setCell (p := ⟨w.heap.size + 1, 1, none⟩) (Nat.le_succ _) (.string D)).setCell (p := ⟨w.heap.size + 1, 2, none⟩) (Nat.le_succ _) (.int .i64 0)
              generalize ((w7.setCell ⟨w.heap.size + 1, 0, none⟩ (.bool false)).setCell ⟨w.heap.size + 1, 1, none⟩ (.string D)).setCell ⟨w.heap.size + 1, 2, none⟩ (.int .i64 0) = w9 at *
              have r0 := kf.cell 0; have r1 := kf.cell 1; have r2 := kf.cell 2
              simp at r0 r1 r2
              exact bodyPost_ret (v := .agg #[.bool false, .string D, .int .i64 0]) (by simp [results, Tryz.results72, go_sem, r0, r1, r2]) rfl ⟨by rw [HOV.out], hbf⟩
            · have hm := made_whole (n := opT' ds k) hns.1
              have hov : opV 116 ds k = .agg #[.bool false, .string (digs (opT' ds k)), .int .i64 0] := rfl
              have hrv : rowval (((rowH ds k).take k).drop i) = opT' ds k := by
                unfold opT'
                rw [HLZ.out]
                rfl
              have hmd := rMade_ints false _ _ 0 w4 (fun d hd => HR10.out d ((List.take_sublist _ _).subset ((List.drop_sublist _ _).subset hd))) (by rw [List.length_drop, List.length_take, HRL.out]; have := HNB.out; omega) (HIW.out i k (by omega) (by omega) (by omega) (vc - i) (by omega) (by have := HMX.out; omega))
              rw [hrv, hm] at hmd
              generalize digs (opT' ds k) = D at *
              have HOV := Lib.hid hov
              clear hm hrv hov
              go_wp2_with fail
              refine hmd.mono ?_
              rintro e w6 ⟨rfl, hB6⟩
              have hB6' := hB4.trans (hB6.mono hB4.size)
              have kX6 := ((kX.on hB6).set 0 (.bool false)).set 1 (.string D) |>.set 2 (.int .i64 0)
              have kR6 := (((kR4.on hB6).other wr.heap.size 0 (.bool false) (by omega)).other wr.heap.size 1 (.string D) (by omega)).other wr.heap.size 2 (.int .i64 0) (by omega)
              have hb6 := ((hB6'.setCell (p := ⟨wr.heap.size, 0, none⟩) (by show w.heap.size ≤ wr.heap.size; omega) (.bool false)).setCell (p := ⟨wr.heap.size, 1, none⟩) (by show w.heap.size ≤ wr.heap.size; omega) (.string D)).setCell (p := ⟨wr.heap.size, 2, none⟩) (by show w.heap.size ≤ wr.heap.size; omega) (.int .i64 0)
              have xc6 := (kX.on hB6).cell
              have xf6 := (kX.on hB6).free
              clear dc xc xf rc rf hmd hints
              go_upto_region 14 with fail
              generalize ((w6.setCell ⟨wr.heap.size, 0, none⟩ (.bool false)).setCell ⟨wr.heap.size, 1, none⟩ (.string D)).setCell ⟨wr.heap.size, 2, none⟩ (.int .i64 0) = w7 at *
              clear xc6 xf6
              have xc := kX6.cell
              have rc := kR6.cell
              have rf := kR6.free
              go_wp2_with fail
              have kf := ((kR6.set 0 (.bool false)).set 1 (.string D)).set 2 (.int .i64 0)
              have hbf := ((hb6.setCell (p := ⟨w.heap.size + 1, 0, none⟩) (Nat.le_succ _) (.bool false)).setCell (p := ⟨w.heap.size + 1, 1, none⟩) (Nat.le_succ _) (.string D)).setCell (p := ⟨w.heap.size + 1, 2, none⟩) (Nat.le_succ _) (.int .i64 0)
              generalize ((w7.setCell ⟨w.heap.size + 1, 0, none⟩ (.bool false)).setCell ⟨w.heap.size + 1, 1, none⟩ (.string D)).setCell ⟨w.heap.size + 1, 2, none⟩ (.int .i64 0) = w9 at *
              have r0 := kf.cell 0; have r1 := kf.cell 1; have r2 := kf.cell 2
              simp at r0 r1 r2
              exact bodyPost_ret (v := .agg #[.bool false, .string D, .int .i64 0]) (by simp [results, Tryz.results72, go_sem, r0, r1, r2]) rfl ⟨by rw [HOV.out], hbf⟩
            · have hm := made_whole (n := k) hns.1
              have hov : opV 118 ds k = .agg #[.bool false, .string (digs (k)), .int .i64 0] := rfl
              have hdg := rDigits_any (k) (Nat.lt_of_le_of_lt (show k ≤ 400 by have := HK4.out; omega) (by decide)) w4
              have hrv := rowval_lowD (k)
              have h10 : ∀ d ∈ lowD (k), d < 10 := fun d hd => (lowD_canon (k)).2.1 d hd
              have hll : (lowD (k)).length ≤ 1000000 := Nat.le_trans (lowD_len (m := 18) (Nat.lt_of_le_of_lt (show k ≤ 400 by have := HK4.out; omega) (by decide)) (by decide)) (by decide)
              have HRV := Lib.hid hrv; have HMK := Lib.hid hm; have HOV := Lib.hid hov; have HL10 := Lib.hid h10; have HLL := Lib.hid hll
              generalize digs (k) = D at *
              generalize lowD (k) = LD at *
              clear hm hrv hov h10 hll
              go_wp2_with fail
              refine hdg.mono ?_
              rintro e w5 ⟨v5, rfl, hrow5, hB5⟩
              have hmd := rMade_any false v5 LD 0 w4.heap.size w5 HL10.out HLL.out hrow5
              rw [HRV.out, HMK.out] at hmd
              have hB4 := hB4.trans (hB5.mono hB4.size)
              have kX := kX.on hB5
              have kR4 := kR4.on hB5
              have kD4 := kD4.on hB5
              clear dc xc xf rc rf
              have dc := kD4.cell
              have xc := kX.cell
              have xf := kX.free
              have rc := kR4.cell
              have rf := kR4.free
              clear hdg hrow5
              go_wp2_with fail
              refine hmd.mono ?_
              rintro e w6 ⟨rfl, hB6⟩
              have hB6' := hB4.trans (hB6.mono hB4.size)
              have kX6 := ((kX.on hB6).set 0 (.bool false)).set 1 (.string D) |>.set 2 (.int .i64 0)
              have kR6 := (((kR4.on hB6).other wr.heap.size 0 (.bool false) (by omega)).other wr.heap.size 1 (.string D) (by omega)).other wr.heap.size 2 (.int .i64 0) (by omega)
              have hb6 := ((hB6'.setCell (p := ⟨wr.heap.size, 0, none⟩) (by show w.heap.size ≤ wr.heap.size; omega) (.bool false)).setCell (p := ⟨wr.heap.size, 1, none⟩) (by show w.heap.size ≤ wr.heap.size; omega) (.string D)).setCell (p := ⟨wr.heap.size, 2, none⟩) (by show w.heap.size ≤ wr.heap.size; omega) (.int .i64 0)
              have xc6 := (kX.on hB6).cell
              have xf6 := (kX.on hB6).free
              clear dc xc xf rc rf hmd hints
              go_upto_region 16 with fail
              generalize ((w6.setCell ⟨wr.heap.size, 0, none⟩ (.bool false)).setCell ⟨wr.heap.size, 1, none⟩ (.string D)).setCell ⟨wr.heap.size, 2, none⟩ (.int .i64 0) = w7 at *
              clear xc6 xf6
              have xc := kX6.cell
              have rc := kR6.cell
              have rf := kR6.free
              go_wp2_with fail
              have kf := ((kR6.set 0 (.bool false)).set 1 (.string D)).set 2 (.int .i64 0)
              have hbf := ((hb6.setCell (p := ⟨w.heap.size + 1, 0, none⟩) (Nat.le_succ _) (.bool false)).setCell (p := ⟨w.heap.size + 1, 1, none⟩) (Nat.le_succ _) (.string D)).setCell (p := ⟨w.heap.size + 1, 2, none⟩) (Nat.le_succ _) (.int .i64 0)
              generalize ((w7.setCell ⟨w.heap.size + 1, 0, none⟩ (.bool false)).setCell ⟨w.heap.size + 1, 1, none⟩ (.string D)).setCell ⟨w.heap.size + 1, 2, none⟩ (.int .i64 0) = w9 at *
              have r0 := kf.cell 0; have r1 := kf.cell 1; have r2 := kf.cell 2
              simp at r0 r1 r2
              exact bodyPost_ret (v := .agg #[.bool false, .string D, .int .i64 0]) (by simp [results, Tryz.results72, go_sem, r0, r1, r2]) rfl ⟨by rw [HOV.out], hbf⟩
            · have hm := made_whole (n := opW ds k) hns.1
              have hov : opV 119 ds k = .agg #[.bool false, .string (digs (opW ds k)), .int .i64 0] := rfl
              have hwi : opW ds k = k - i := by unfold opW; rw [HLZ.out]
              have f1 : IntKind.i64.wrap ((k : Int) - i) = (opW ds k : Int) := by rw [hwi, show (k : Int) - i = ((k - i : Nat) : Int) by omega]; exact IntWalk.i64_in _ (by have := HK4.out; omega)
              have hdg := rDigits_any (opW ds k) (Nat.lt_of_le_of_lt (show opW ds k ≤ 400 by have := HK4.out; have hwi : opW ds k = k - i := (by unfold opW; rw [HLZ.out]); omega) (by decide)) w4
              have hrv := rowval_lowD (opW ds k)
              have h10 : ∀ d ∈ lowD (opW ds k), d < 10 := fun d hd => (lowD_canon (opW ds k)).2.1 d hd
              have hll : (lowD (opW ds k)).length ≤ 1000000 := Nat.le_trans (lowD_len (m := 18) (Nat.lt_of_le_of_lt (show opW ds k ≤ 400 by have := HK4.out; have hwi : opW ds k = k - i := (by unfold opW; rw [HLZ.out]); omega) (by decide)) (by decide)) (by decide)
              have HRV := Lib.hid hrv; have HMK := Lib.hid hm; have HOV := Lib.hid hov; have HL10 := Lib.hid h10; have HLL := Lib.hid hll
              generalize digs (opW ds k) = D at *
              generalize lowD (opW ds k) = LD at *
              clear hm hrv hov h10 hll hwi
              generalize opW ds k = WN at *
              go_wp2_with fail
              refine hdg.mono ?_
              rintro e w5 ⟨v5, rfl, hrow5, hB5⟩
              have hmd := rMade_any false v5 LD 0 w4.heap.size w5 HL10.out HLL.out hrow5
              rw [HRV.out, HMK.out] at hmd
              have hB4 := hB4.trans (hB5.mono hB4.size)
              have kX := kX.on hB5
              have kR4 := kR4.on hB5
              have kD4 := kD4.on hB5
              clear dc xc xf rc rf
              have dc := kD4.cell
              have xc := kX.cell
              have xf := kX.free
              have rc := kR4.cell
              have rf := kR4.free
              clear hdg hrow5
              go_wp2_with fail
              refine hmd.mono ?_
              rintro e w6 ⟨rfl, hB6⟩
              have hB6' := hB4.trans (hB6.mono hB4.size)
              have kX6 := ((kX.on hB6).set 0 (.bool false)).set 1 (.string D) |>.set 2 (.int .i64 0)
              have kR6 := (((kR4.on hB6).other wr.heap.size 0 (.bool false) (by omega)).other wr.heap.size 1 (.string D) (by omega)).other wr.heap.size 2 (.int .i64 0) (by omega)
              have hb6 := ((hB6'.setCell (p := ⟨wr.heap.size, 0, none⟩) (by show w.heap.size ≤ wr.heap.size; omega) (.bool false)).setCell (p := ⟨wr.heap.size, 1, none⟩) (by show w.heap.size ≤ wr.heap.size; omega) (.string D)).setCell (p := ⟨wr.heap.size, 2, none⟩) (by show w.heap.size ≤ wr.heap.size; omega) (.int .i64 0)
              have xc6 := (kX.on hB6).cell
              have xf6 := (kX.on hB6).free
              clear dc xc xf rc rf hmd hints
              go_upto_region 18 with fail
              generalize ((w6.setCell ⟨wr.heap.size, 0, none⟩ (.bool false)).setCell ⟨wr.heap.size, 1, none⟩ (.string D)).setCell ⟨wr.heap.size, 2, none⟩ (.int .i64 0) = w7 at *
              clear xc6 xf6
              have xc := kX6.cell
              have rc := kR6.cell
              have rf := kR6.free
              go_wp2_with fail
              have kf := ((kR6.set 0 (.bool false)).set 1 (.string D)).set 2 (.int .i64 0)
              have hbf := ((hb6.setCell (p := ⟨w.heap.size + 1, 0, none⟩) (Nat.le_succ _) (.bool false)).setCell (p := ⟨w.heap.size + 1, 1, none⟩) (Nat.le_succ _) (.string D)).setCell (p := ⟨w.heap.size + 1, 2, none⟩) (Nat.le_succ _) (.int .i64 0)
              generalize ((w7.setCell ⟨w.heap.size + 1, 0, none⟩ (.bool false)).setCell ⟨w.heap.size + 1, 1, none⟩ (.string D)).setCell ⟨w.heap.size + 1, 2, none⟩ (.int .i64 0) = w9 at *
              have r0 := kf.cell 0; have r1 := kf.cell 1; have r2 := kf.cell 2
              simp at r0 r1 r2
              exact bodyPost_ret (v := .agg #[.bool false, .string D, .int .i64 0]) (by simp [results, Tryz.results72, go_sem, r0, r1, r2]) rfl ⟨by rw [HOV.out], hbf⟩
end Go.Proofs.YtgbemhehbhlgpaaGreatDoor
