/-
  Rules for numbers, the document's answer: does a relation hold?
-/
import Derived.Test.YtgbemhehbhlgpaaGreatDoorPlRf
import Derived.Test.YtgbemhehbhlgpaaGreatDoorPlRo
import Derived.Test.YtgbemhehbhlgpaaGreatDoorPlT
namespace Go.Proofs.YtgbemhehbhlgpaaGreatDoor
open Go.RowKit Go.PlainAid

theorem rowval_zero : ∀ {l : List Nat}, rowval l = 0 ↔ ∀ d ∈ l, d = 0
  | [] => by simp [rowval]
  | d :: l => by
    constructor
    · intro h x hx
      have h : d + 10 * rowval l = 0 := h
      rcases List.mem_cons.1 hx with rfl | hx
      · omega
      · exact rowval_zero.1 (show rowval l = 0 by omega) x hx
    · intro h
      have h1 := h d (by simp)
      have h2 : rowval l = 0 := rowval_zero.2 (fun x hx => h x (by simp [hx]))
      show d + 10 * rowval l = 0
      omega
/-- The digits of a number, the lowest first. -/
def rwD (M : Nat) : List Nat := (dl (digs M)).reverse
theorem rwD_val (M : Nat) : rowval (rwD M) = M := by
  have h := dval_digs M
  exact h
theorem rwD_lt (M : Nat) : ∀ d ∈ rwD M, d < 10 := fun d hd => dl_lt (digs_dig M) d (by unfold rwD at hd; simpa using hd)
theorem low_zero {M K : Nat} : M % 10 ^ K = 0 ↔ ∀ j, j < K → (rwD M).getD j 0 = 0 := by
  have hl := rwD_lt M
  have hv := rwD_val M
  generalize rwD M = l at *
  have e : M % 10 ^ K = rowval (l.take K) := by
    by_cases h : K ≤ l.length
    · rw [(rowval_parts hl h).1, hv]
    · have h1 := rowval_lt hl
      rw [List.take_of_length_le (by omega), hv]
      rw [hv] at h1
      exact Nat.mod_eq_of_lt (Nat.lt_of_lt_of_le h1 (Nat.pow_le_pow_right (by decide) (by omega)))
  rw [e, rowval_zero]
  constructor
  · intro h j hj
    by_cases hjl : j < l.length
    · rw [List.getD_eq_getElem?_getD, List.getElem?_eq_getElem hjl]
      exact h _ (by
        have : (l.take K)[j]'(by rw [List.length_take]; omega) = l[j] := List.getElem_take
        rw [Option.getD_some, ← this]
        exact List.getElem_mem _)
    · rw [List.getD_eq_getElem?_getD, List.getElem?_eq_none (by omega)]
      rfl
  · intro h d hd
    obtain ⟨j, hj, rfl⟩ := List.getElem_of_mem hd
    rw [List.length_take] at hj
    have h1 := h j (by omega)
    rw [List.getD_eq_getElem?_getD, List.getElem?_eq_getElem (by omega)] at h1
    rw [List.getElem_take]
    exact h1
theorem cmp_left (a M K : Nat) : cmpD false (digs a) 0 false (digs M) K = cmpN (a * 10 ^ K) M := by
  unfold cmpD
  rw [dval_digs, dval_digs, Nat.zero_max]
  simp only [sv_false, Nat.sub_zero, Nat.sub_self, Nat.pow_zero, Nat.mul_one]
  unfold cmpZ cmpN
  simp only [Int.ofNat_lt]
theorem cmp_right (b M K : Nat) : cmpD false (digs M) K false (digs b) 0 = cmpN M (b * 10 ^ K) := by
  unfold cmpD
  rw [dval_digs, dval_digs, Nat.max_zero]
  simp only [sv_false, Nat.sub_zero, Nat.sub_self, Nat.pow_zero, Nat.mul_one]
  unfold cmpZ cmpN
  simp only [Int.ofNat_lt]
theorem scaled_le {a M K : Nat} : a * 10 ^ K ≤ M ↔ a ≤ M / 10 ^ K := (Nat.le_div_iff_mul_le (Nat.pow_pos (by decide))).symm
theorem scaled_ge {b M K : Nat} (h : M % 10 ^ K = 0) : M ≤ b * 10 ^ K ↔ M / 10 ^ K ≤ b := by
  have hp : 0 < 10 ^ K := Nat.pow_pos (by decide)
  have e : M = M / 10 ^ K * 10 ^ K := by
    have h1 := Nat.div_add_mod M (10 ^ K)
    rw [h, Nat.add_zero, Nat.mul_comm] at h1
    exact h1.symm
  constructor
  · intro g
    rw [e] at g
    exact Nat.le_of_mul_le_mul_right g hp
  · intro g
    rw [e]
    exact Nat.mul_le_mul_right _ g

theorem mod_is {x : Nat × Nat} (hns : NS x) {b : Nat} (hb : b ≠ 0) : decE (modR (digs x.1) x.2 b) = .tuple #[.agg #[.bool false, .string (digs (mdD b x).1), .int .i64 ((mdD b x).2 : Int)], .int .i64 0] := by
  have hm := mdD_ns hns b
  have hk := hm.2
  have hz := hm.1
  unfold mdD at hk hz ⊢
  rw [if_neg hb] at hk hz ⊢
  have hz2 : (digs (x.1 / 10 ^ x.2 % b * 10 ^ x.2 + x.1 % 10 ^ x.2)).size ≤ 400 := hz
  unfold modR madeR
  rw [dval_digs, if_neg (by omega)]
  rfl
/-- Two blocks and two cells, as they are. -/
def HK (w0 : World) (b0 : Nat) (c0 : Array Value) (b1 : Nat) (c1 : Array Value) (p1 p2 : Addr) (v1 v2 : Value) (W : World) : Prop := Blk W b0 c0 ∧ Blk W b1 c1 ∧ W.cell? p1 = some v1 ∧ W.cell? p2 = some v2 ∧ Below w0.heap.size w0 W
theorem HK.on {w0 : World} {b0 : Nat} {c0 : Array Value} {b1 : Nat} {c1 : Array Value} {p1 p2 : Addr} {v1 v2 : Value} {W W' : World} (h : HK w0 b0 c0 b1 c1 p1 p2 v1 v2 W) (hB : Below W.heap.size W W') : HK w0 b0 c0 b1 c1 p1 p2 v1 v2 W' :=
  ⟨h.1.on hB, h.2.1.on hB, (hB.cell (p := p1) (World.block_lt_of_cell? W p1 h.2.2.1)).trans h.2.2.1, (hB.cell (p := p2) (World.block_lt_of_cell? W p2 h.2.2.2.1)).trans h.2.2.2.1, h.2.2.2.2.trans (hB.mono h.2.2.2.2.size)⟩
theorem HK.drew {w0 : World} {b0 : Nat} {c0 : Array Value} {b1 : Nat} {c1 : Array Value} {p1 p2 : Addr} {v1 v2 : Value} {W : World} (h : HK w0 b0 c0 b1 c1 p1 p2 v1 v2 W) : HK w0 b0 c0 b1 c1 p1 p2 v1 v2 W.drew := h.on (Below.refl _ _).drew
theorem HK.lims {w0 : World} {b0 : Nat} {c0 : Array Value} {b1 : Nat} {c1 : Array Value} {p1 p2 : Addr} {v1 v2 : Value} {W : World} (h : HK w0 b0 c0 b1 c1 p1 p2 v1 v2 W) :
    (∀ o, W.cell? ⟨b0, o, none⟩ = c0[o]?) ∧ (∀ o, W.cell? ⟨b1, o, none⟩ = c1[o]?) ∧ W.cell? p1 = some v1 ∧ W.cell? p2 = some v2 ∧ Below w0.heap.size w0 W := ⟨h.1.cell, h.2.1.cell, h.2.2.1, h.2.2.2.1, h.2.2.2.2⟩
theorem hk_call {P : Program} {f : FuncId} {args : Array Value} {v : Value} {w0 : World} {b0 : Nat} {c0 : Array Value} {b1 : Nat} {c1 : Array Value} {p1 p2 : Addr} {v1 v2 : Value} {W : World} (h : Calls P f args W fun e w' => e = .returned v ∧ Below W.heap.size W w') (hS : HK w0 b0 c0 b1 c1 p1 p2 v1 v2 W) :
    Calls P f args W fun e w' => e = .returned v ∧ HK w0 b0 c0 b1 c1 p1 p2 v1 v2 w' := h.mono fun _ _ ⟨e, hB⟩ => ⟨e, hS.on hB⟩

set_option maxRecDepth 100000 in
set_option maxHeartbeats 8000000 in
theorem rRelH_any {neg : Bool} {ds : ByteArray} {k : Nat} (hr : rightB neg ds k = true) (fa : Option Addr) (fn fc : Nat) (ta : Option Addr) (tn tc : Nat) (r : Rl) (w : World) (hf : GAt I64E w (.slice fa fn fc) (r.rs.map (·.1))) (ht : GAt I64E w (.slice ta tn tc) (r.rs.map (·.2)))
    (ho : r.op = 110 ∨ r.op = 105 ∨ r.op = 102 ∨ r.op = 116 ∨ r.op = 118 ∨ r.op = 119) (hb : r.by_ < 1000000000) (hrs : ∀ y ∈ r.rs, y.1 < 1000000000 ∧ y.2 < 1000000000) (hlen : r.rs.length ≤ 10000) :
    Calls Tryz.prog 48 #[.agg #[.int .u8 r.op, .int .i64 (r.by_ : Int), .bool r.nt, .slice fa fn fc, .slice ta tn tc], .agg #[.bool neg, .string ds, .int .i64 k]] w fun e w' => e = .returned (.bool (rlH ds k r)) ∧ Below w.heap.size w w' := by
  have hA1 := (Below.refl w.heap.size w).alloc (Nat.le_refl _) (.cells #[.int .u8 r.op, .int .i64 (r.by_ : Int), .bool r.nt, .slice fa fn fc, .slice ta tn tc] 86)
  have kr := Blk.new w #[.int .u8 r.op, .int .i64 (r.by_ : Int), .bool r.nt, .slice fa fn fc, .slice ta tn tc] 86
  generalize hw1 : w.alloc (.cells #[.int .u8 r.op, .int .i64 (r.by_ : Int), .bool r.nt, .slice fa fn fc, .slice ta tn tc] 86) = w1 at *
  have z1 : w1.heap.size = w.heap.size + 1 := by rw [← hw1]; simp
  have HW1 := Lib.hid hw1
  have hA2' := (Below.refl w1.heap.size w1).alloc (Nat.le_refl _) (.cells #[.bool neg, .string ds, .int .i64 k] 23)
  have hA2 := hA1.trans (hA2'.mono hA1.size)
  have kd := Blk.new w1 #[.bool neg, .string ds, .int .i64 k] 23
  rw [z1] at kd
  have kr2 := kr.on hA2'
  generalize hw2 : w1.alloc (.cells #[.bool neg, .string ds, .int .i64 k] 23) = w2 at *
  have HW2 := Lib.hid hw2
  have hop := rOper_any hr r.op ho w2
  have hns := opD_ns hr r.op
  have hres : rlH ds k r = (inD r.rs (mdD r.by_ (opD r.op ds k)) != r.nt) := rfl
  rw [hres]
  unfold opV at hop
  generalize opD r.op ds k = x0 at *
  have HNS := Lib.hid hns; have HB := Lib.hid hb; have HRS := Lib.hid hrs; have HLEN := Lib.hid hlen; have HF := Lib.hid hf; have HT := Lib.hid ht
  clear hr ho hns hb hrs hlen hf ht hw1 hw2 hres hA1 hA2' kr
  go_enter Tryz.func48, Tryz.ntmps48
  go_upto_region 1 with fail
  rw [HW1.out, HW2.out]
  have dc := kd.cell
  have rc := kr2.cell
  go_wp2_with fail
  refine hop.mono ?_
  rintro e w3 ⟨rfl, hB3⟩
  have hB3' := hA2.trans (hB3.mono hA2.size)
  have hA4 := (Below.refl w3.heap.size w3).alloc (Nat.le_refl _) (.cells #[.bool false, .string (digs x0.1), .int .i64 (x0.2 : Int)] 23)
  have kX := Blk.new w3 #[.bool false, .string (digs x0.1), .int .i64 (x0.2 : Int)] 23
  have kr4 := (kr2.on hB3).on hA4
  have hB4 := hB3'.trans (hA4.mono hB3'.size)
  have hz3 : w.heap.size < w3.heap.size := (kr2.on hB3).lt
  have hz4 : w3.heap.size < (w3.alloc (.cells #[.bool false, .string (digs x0.1), .int .i64 (x0.2 : Int)] 23)).heap.size := kX.lt
  clear hop dc rc kr2 kd hA2 hA4 hB3
  go_upto_region 2 with fail
  generalize w3.alloc (.cells #[.bool false, .string (digs x0.1), .int .i64 (x0.2 : Int)] 23) = w4 at *
  have rc := kr4.cell
  have xc := kX.cell
  have xf := kX.free
  go_upto_if 15 with fail
  go_cut [5] (fun s5 wx => s5 = .pointer (some ⟨w3.heap.size, 0, none⟩) ∧ Blk wx w3.heap.size #[.bool false, .string (digs (mdD r.by_ x0).1), .int .i64 ((mdD r.by_ x0).2 : Int)] ∧ Blk wx w.heap.size #[.int .u8 r.op, .int .i64 (r.by_ : Int), .bool r.nt, .slice fa fn fc, .slice ta tn tc] ∧ Below w.heap.size w wx ∧ w3.heap.size < wx.heap.size)
  case first =>
    by_cases h0 : r.by_ = 0
    · have hm : mdD r.by_ x0 = x0 := by rw [h0]; rfl
      have HM := Lib.hid hm
      first | rw [show decide (0 < r.by_) = false from decide_eq_false (by omega)] | rw [show decide ((0 : Int) < (r.by_ : Int)) = false from decide_eq_false (by omega)]
      clear h0 hm
      go_wp2_with fail
      go_meet
      case rel => exact ⟨rfl, by rw [HM.out]; exact kX, kr4, hB4, hz4⟩
    · have hmd := fun W => rMod_yes (neg := false) (ds := digs x0.1) (k := x0.2) (N := r.by_) HNS.out.right (by omega) (by have := HB.out; omega) W
      rw [mod_is HNS.out h0] at hmd
      first | rw [show decide (0 < r.by_) = true from decide_eq_true (by omega)] | rw [show decide ((0 : Int) < (r.by_ : Int)) = true from decide_eq_true (by omega)]
      clear h0
      go_wp2_with fail
      refine (hmd w4).mono ?_
      rintro e w5 ⟨rfl, hB5⟩
      have kX5 := kX.on hB5
      have kr5 := kr4.on hB5
      have hB5' := hB4.trans (hB5.mono hB4.size)
      have xc5 := kX5.cell
      have xf5 := kX5.free
      clear hmd xc xf rc
      go_wp2_with fail
      go_meet
      case rel => exact ⟨rfl, ((kX5.set 0 _).set 1 _).set 2 _, ((kr5.other _ _ _ (by omega)).other _ _ _ (by omega)).other _ _ _ (by omega), ((hB5'.setCell (p := ⟨w3.heap.size, 0, none⟩) (Nat.le_of_lt hz3) _).setCell (p := ⟨w3.heap.size, 1, none⟩) (Nat.le_of_lt hz3) _).setCell (p := ⟨w3.heap.size, 2, none⟩) (Nat.le_of_lt hz3) _, by have := hB5.size; simp; omega⟩
  case rest =>
    obtain ⟨rfl, kX, kr, hB, hzc⟩ := hcut
    have hms := mdD_ns HNS.out r.by_
    obtain ⟨y0, hy0⟩ : ∃ y, mdD r.by_ x0 = y := ⟨_, rfl⟩
    rw [hy0] at kX hms
    obtain ⟨M, K⟩ := y0
    have HY0 := Lib.hid hy0
    clear hy0
    simp only at kX hms
    have hrow := rRow_any false (digs M) (K : Int) (K : Int) wc (digs_dig M) (by have := hms.1; simp only at this; omega) (by omega) (by have := hms.2; simp only at this; omega)
    have e00 : rowOf (digs M) ((K : Int) - K).toNat = rwD M := by
      rw [show ((K : Int) - K).toNat = 0 by omega]
      rfl
    rw [e00] at hrow
    clear rc xc xf e00
    have hF := HF.out.on hB
    have hT := HT.out.on hB
    have rc := kr.cell
    have xc := kX.cell
    go_upto_region 5 with (go_at_call 74; refine hrow.mono ?_; rintro e w5 ⟨v5, rfl, hrow5, hB5⟩)
    have hBw := hB.trans (hB5.mono hB.size)
    have kX5 := kX.on hB5
    have kr5 := kr.on hB5
    have hF5 := hF.on hB5
    have hT5 := hT.on hB5
    obtain ⟨n, hn⟩ : ∃ n, (rwD M).length = n := ⟨_, rfl⟩
    obtain ⟨va, vc, rfl⟩ := hrow5.form n hn
    have hints := hrow5.ints
    have HI := Lib.hid hints; have HN := Lib.hid hn
    have hn400 : n ≤ 10000 := by
      have h1 := hms.1
      simp only at h1
      rw [← hn]
      unfold rwD
      rw [List.length_reverse, dl_length]
      omega
    have hK400 : K ≤ 400 := hms.2
    have HMR := Lib.hid (show rightB false (digs M) (K : Int) = true from NS.right (x := (M, K)) hms)
    clear hrow rc xc kX kr hF hT hrow5 hints hn hms
    have rc := kr5.cell
    have xc := kX5.cell
    go_wp2_with fail
    go_loopg [7] (K + 1) (fun f s7 wx => ∃ i : Nat, s7 = .int .i64 (i : Int) ∧ f + i = K + 1 ∧ i ≤ K ∧ (∀ j, j < i → (rwD M).getD j 0 = 0) ∧ w5 = wx)
    case atStart => exact ⟨0, rfl, rfl, Nat.zero_le _, fun j hj => absurd hj (Nat.not_lt_zero j), rfl⟩
    case round =>
      obtain ⟨i, rfl, hg, hi, hz, rfl⟩ := hrel
      have HG := Lib.hid hg; have HZ := Lib.hid hz; have HII := Lib.hid hi
      have hi0 : (0 : Int) ≤ i := by omega
      by_cases hgo : i < K ∧ i < n
      · have hins := HI.out
        have hnn := HN.out
        rcases hins with ⟨h0, _⟩ | ⟨gg, oo, cap, hv, hgg, hcap, hmx, hc⟩
        · rw [h0] at hnn
          have : n = 0 := by simpa using hnn.symm
          omega
        injection hv with hv1 hv2 hv3
        subst hv1 hv3
        have hc := hc i (by omega)
        have hgd : (rwD M)[i]'(by omega) = (rwD M).getD i 0 := by rw [List.getD_eq_getElem?_getD, List.getElem?_eq_getElem (by omega)]; rfl
        rw [hgd] at hc
        have j1 : (i : Int) < K := by omega
        have j2 : (i : Int) < n := by omega
        have f1 : IntKind.i64.wrap ((i : Int) + 1) = (i : Int) + 1 := IntWalk.i64_in _ (by omega)
        have HGO := Lib.hid hgo
        by_cases hz0 : (rwD M).getD i 0 = 0
        · rw [hz0] at hc
          have hz' : ∀ j, j < i + 1 → (rwD M).getD j 0 = 0 := fun j hj => by
            by_cases e : j = i
            · rw [e]; exact hz0
            · exact hz j (by omega)
          have HZ2 := Lib.hid hz'
          clear hz hz' hz0 hgd hgo hg hi hv2 hnn hcap hmx hgg
          go_wp2_with fail
          go_roundg (K - i)
          case rel => exact ⟨i + 1, by simp, by have := HG.out; have := HGO.out; omega, HGO.out.1, HZ2.out, rfl⟩
          case measure => have := HG.out; have := HGO.out; omega
        · have hno : inD r.rs (M, K) = false := by
            unfold inD
            rw [decide_eq_false (fun h => hz0 (low_zero.1 h i hgo.1))]
            rfl
          have hnz : ((((rwD M).getD i 0 : Nat) : Int) == 0) = false := by
            have h : (((rwD M).getD i 0 : Nat) : Int) ≠ 0 := by omega
            simpa using h
          have hnz2 : ((((rwD M).getD i 0 : Nat) : Int) != 0) = true := by rw [bne, hnz]; rfl
          have HNO := Lib.hid hno
          generalize (((rwD M).getD i 0 : Nat) : Int) = D at *
          clear hz hz0 hgd hgo hg hi hno hv2 hnn hcap hmx hgg
          go_wp2_with fail
          go_ret
          exact ⟨ret_bool (by rw [HY0.out, HNO.out]; cases r.nt <;> rfl), hBw⟩
      · have hz0 : M % 10 ^ K = 0 := low_zero.2 fun j hj => by
          by_cases e : j < i
          · exact hz j e
          · have hnn := HN.out
            rw [List.getD_eq_getElem?_getD, List.getElem?_eq_none (by omega)]
            rfl
        have HZ0 := Lib.hid hz0; have HGO := Lib.hid hgo
        clear hz hz0 hgo hg
        go_upto_region 6 with fail
        go_cut [36] (fun s36 wx => s36 = .bool false ∧ w5 = wx)
        case first =>
          by_cases e : i < K
          · have j1 : (i : Int) < K := by omega
            have j2 : ¬ (i : Int) < n := by have := HGO.out; omega
            go_wp2_with fail
            go_meet
            case rel => exact ⟨rfl, rfl⟩
          · have j1 : ¬ (i : Int) < K := by omega
            go_wp2_with fail
            go_meet
            case rel => exact ⟨rfl, rfl⟩
        case rest =>
          obtain ⟨rfl, rfl⟩ := hcut
          obtain ⟨len, hlen⟩ : ∃ len, r.rs.length = len := ⟨_, rfl⟩
          have hfn : fn = len := by
            obtain ⟨_, _, hv, _⟩ := hF5
            injection hv with _ h _
            rw [h, List.length_map, hlen]
          subst hfn
          have HLL := Lib.hid hlen
          have HKX := Lib.hid kX5; have HKR := Lib.hid kr5; have HF5 := Lib.hid hF5; have HT5 := Lib.hid hT5
          have hl4 : fn ≤ 10000 := by have := HLEN.out; omega
          clear rc xc kX5 kr5 hF5 hT5 hlen hi hi0
          go_wp2_with fail
          go_loopg [8] (fn + 1) (fun f s8 wx => ∃ i : Nat, s8 = .int .i64 (i : Int) ∧ f + i = fn + 1 ∧ i ≤ fn ∧ (∀ j (hj : j < r.rs.length), j < i → ¬ (r.rs[j].1 ≤ M / 10 ^ K ∧ M / 10 ^ K ≤ r.rs[j].2)) ∧ Below w5.heap.size w5 wx)
          case atStart => exact ⟨0, rfl, by omega, Nat.zero_le _, fun j _ hj => absurd hj (Nat.not_lt_zero j), Below.refl _ _⟩
          case round =>
            obtain ⟨i, rfl, hg, hi, hno, hBr⟩ := hrel
            have kX := HKX.out.on hBr
            have kr := HKR.out.on hBr
            have hF := HF5.out.on hBr
            have hT := HT5.out.on hBr
            have hBR := hBw.trans (hBr.mono hBw.size)
            have HG := Lib.hid hg; have HI2 := Lib.hid hi; have HNO := Lib.hid hno
            have hi0 : (0 : Int) ≤ i := by omega
            have f1 : IntKind.i64.wrap ((i : Int) + 1) = (i : Int) + 1 := IntWalk.i64_in _ (by omega)
            by_cases hlt : i < fn
            · have hli : i < r.rs.length := by have := HLL.out; omega
              obtain ⟨y, hy⟩ : ∃ y, r.rs[i] = y := ⟨_, rfl⟩
              have hyr := HRS.out y (by rw [← hy]; exact List.getElem_mem hli)
              obtain ⟨a, b⟩ := y
              simp only at hyr
              obtain ⟨fa', fcap, hfv, hfc⟩ := hF
              obtain ⟨ta', tcap, htv, htc⟩ := hT
              obtain ⟨fg, fo, hfa, hfg, hfcell⟩ := hfc i (by rw [List.length_map]; exact hli)
              obtain ⟨tg, to_, hta, htg, htcell⟩ := htc i (by rw [List.length_map]; exact hli)
              injection hfv with hf1 hf2 hf3
              injection htv with ht1 ht2 ht3
              have hfa : fa = some ⟨fg, fo, none⟩ := hf1.trans hfa
              have hta : ta = some ⟨tg, to_, none⟩ := ht1.trans hta
              subst hfa hta
              have htn : tn = fn := by rw [ht2, List.length_map]; exact HLL.out
              have htnI : (i : Int) < tn := by omega
              have hc1 := hfcell 0 (by decide)
              have hc2 := htcell 0 (by decide)
              have hc1 : wr.cell? ⟨fg, fo + i, none⟩ = some (.int .i64 (a : Int)) := by
                have e : I64E.sz = 1 := rfl
                rw [e, Nat.mul_one, Nat.add_zero] at hc1
                rw [hc1, List.getElem_map, hy]
                rfl
              have hc2 : wr.cell? ⟨tg, to_ + i, none⟩ = some (.int .i64 (b : Int)) := by
                have e : I64E.sz = 1 := rfl
                rw [e, Nat.mul_one, Nat.add_zero] at hc2
                rw [hc2, List.getElem_map, hy]
                rfl
              have hS : HK wr _ _ _ _ _ _ _ _ wr := ⟨kr, kX, hc1, hc2, Below.refl _ _⟩
              have ha18 : a < 10 ^ 18 := Nat.lt_trans hyr.1 (by decide)
              have hb18 : b < 10 ^ 18 := Nat.lt_trans hyr.2 (by decide)
              have hMr : rightB false (digs M) (K : Int) = true := HMR.out
              have hcmp1 : ∀ W, Calls Tryz.prog 75 #[.agg #[.bool false, .string (digs a), .int .i64 0], .agg #[.bool false, .string (digs M), .int .i64 (K : Int)]] W fun e w' => e = .returned (.int .i64 (cmpN (a * 10 ^ K) M)) ∧ Below W.heap.size W w' := fun W => by
                have h := rCompare_yes (n1 := false) (d1 := digs a) (k1 := 0) (n2 := false) (d2 := digs M) (k2 := K) (NS.right (x := (a, 0)) ⟨lt_nine hyr.1, Nat.zero_le _⟩) hMr W
                rw [cmp_left] at h
                exact h
              have hcmp2 : ∀ W, Calls Tryz.prog 75 #[.agg #[.bool false, .string (digs M), .int .i64 (K : Int)], .agg #[.bool false, .string (digs b), .int .i64 0]] W fun e w' => e = .returned (.int .i64 (cmpN M (b * 10 ^ K))) ∧ Below W.heap.size W w' := fun W => by
                have h := rCompare_yes (n1 := false) (d1 := digs M) (k1 := K) (n2 := false) (d2 := digs b) (k2 := 0) hMr (NS.right (x := (b, 0)) ⟨lt_nine hyr.2, Nat.zero_le _⟩) W
                rw [cmp_right] at h
                exact h
              have hle1 := (cmpN_ge (a * 10 ^ K) M).2.trans scaled_le
              have hle2 := (cmpN_ge M (b * 10 ^ K)).2.trans (scaled_ge HZ0.out)
              have hiI : (i : Int) < fn := by omega
              have hnext : ¬ (a ≤ M / 10 ^ K ∧ M / 10 ^ K ≤ b) → ∀ j (hj : j < r.rs.length), j < i + 1 → ¬ (r.rs[j].1 ≤ M / 10 ^ K ∧ M / 10 ^ K ≤ r.rs[j].2) := fun h j hj hji => by
                by_cases e : j = i
                · subst e
                  rw [hy]
                  exact h
                · exact HNO.out j hj (by omega)
              have HNX := Lib.hid hnext; have HLT := Lib.hid hlt; have HY := Lib.hid hy; have HLI := Lib.hid hli
              generalize cmpN (a * 10 ^ K) M = C1 at *
              generalize cmpN M (b * 10 ^ K) = C2 at *
              clear hnext hlt hy hno hg hi hfc htc hfcell htcell hf1 hf2 hf3 ht1 ht2 ht3 hfg htg hyr hMr htn kr kX hc1 hc2
              by_cases hA : a ≤ M / 10 ^ K
              · have hC1 : C1 ≤ 0 := hle1.2 hA
                by_cases hBB : M / 10 ^ K ≤ b
                · have hC2 : C2 ≤ 0 := hle2.2 hBB
                  have hyes : inD r.rs (M, K) = true := by
                    unfold inD inRs
                    rw [decide_eq_true HZ0.out, Bool.true_and]
                    exact List.any_eq_true.2 ⟨r.rs[i]'HLI.out, List.getElem_mem _, by rw [HY.out]; exact decide_eq_true ⟨hA, hBB⟩⟩
                  have HYES := Lib.hid hyes
                  clear hyes hle1 hle2 hA hBB
                  have rc := hS.lims.1
                  go_upto_region 13 with fail
                  clear rc
                  refine wp_region_held_drew (S := fun w' => (∀ o, w'.cell? ⟨w.heap.size, o, none⟩ = #[Value.int .u8 r.op, Value.int .i64 (r.by_ : Int), Value.bool r.nt, Value.slice (some ⟨fg, fo, none⟩) fn fc, Value.slice (some ⟨tg, to_, none⟩) tn tc][o]?) ∧ (∀ o, w'.cell? ⟨w3.heap.size, o, none⟩ = #[Value.bool false, Value.string (digs M), Value.int .i64 (K : Int)][o]?) ∧ w'.cell? ⟨fg, fo + i, none⟩ = some (Value.int .i64 (a : Int)) ∧ w'.cell? ⟨tg, to_ + i, none⟩ = some (Value.int .i64 (b : Int)) ∧ Below wr.heap.size wr w') (by kernel_rfl) (hS.drew.lims) (fun hHeld => ?_)
                  refine wpAnyH_take (i := 0) (v := ?_) rfl (by kernel_rfl) (by kernel_rfl) (by kernel_rfl) (fun _ _ _ h => h) (Or.inl ⟨by rfl, ?_⟩) hHeld ?_
                  rotate_left
                  · intro w hSw; (try dsimp only at hSw); first | (go_simp; done) | (go_simp; with_reducible rfl)
                  try simp only [Act.put, List.setIfInBounds_toArray, List.set_cons_zero, List.set_cons_succ, List.getElem_toArray, List.getElem_cons_zero]
                  refine wpAnyH_take (i := 1) (v := ?_) rfl (by kernel_rfl) (by kernel_rfl) (by kernel_rfl) (fun _ _ _ h => h) (Or.inl ⟨by rfl, ?_⟩) hHeld ?_
                  rotate_left
                  · intro w hSw; (try dsimp only at hSw); first | (go_simp; done) | (go_simp; with_reducible rfl)
                  try simp only [Act.put, List.setIfInBounds_toArray, List.set_cons_zero, List.set_cons_succ, List.getElem_toArray, List.getElem_cons_zero, List.getElem_cons_succ]
                  refine wpAnyH_take (i := 2) (v := ?_) rfl (by kernel_rfl) (by kernel_rfl) (by kernel_rfl) (fun _ _ _ h => h) (Or.inl ⟨by rfl, ?_⟩) hHeld ?_
                  rotate_left
                  · intro w hSw; (try dsimp only at hSw); first | (go_simp; done) | (go_simp; with_reducible rfl)
                  try simp only [Act.put, List.setIfInBounds_toArray, List.set_cons_zero, List.set_cons_succ, List.getElem_toArray, List.getElem_cons_zero, List.getElem_cons_succ]
                  refine wpAnyH_take (i := 3) (v := ?_) rfl (by kernel_rfl) (by kernel_rfl) (by kernel_rfl) (fun _ _ _ h => h) (Or.inl ⟨by rfl, ?_⟩) hHeld ?_
                  rotate_left
                  · intro w hSw; (try dsimp only at hSw); first | (go_simp; done) | (go_simp; with_reducible rfl)
                  try simp only [Act.put, List.setIfInBounds_toArray, List.set_cons_zero, List.set_cons_succ, List.getElem_toArray, List.getElem_cons_zero, List.getElem_cons_succ]
                  refine wpAnyH_take (i := 4) (v := ?_) rfl (by kernel_rfl) (by kernel_rfl) (by kernel_rfl) (fun _ _ _ h => h) (Or.inl ⟨by rfl, ?_⟩) hHeld ?_
                  rotate_left
                  · intro w hSw; (try dsimp only at hSw); first | (go_simp; done) | (go_simp; with_reducible rfl)
                  try simp only [Act.put, List.setIfInBounds_toArray, List.set_cons_zero, List.set_cons_succ, List.getElem_toArray, List.getElem_cons_zero, List.getElem_cons_succ]
                  refine wpAnyH_take (i := 6) (v := ?_) rfl (by kernel_rfl) (by kernel_rfl) (by kernel_rfl) (fun _ _ _ h => h) (Or.inl ⟨by rfl, ?_⟩) hHeld ?_
                  rotate_left
                  · intro w hSw; (try dsimp only at hSw); first | (go_simp; done) | (go_simp; with_reducible rfl)
                  try simp only [Act.put, List.setIfInBounds_toArray, List.set_cons_zero, List.set_cons_succ, List.getElem_toArray, List.getElem_cons_zero, List.getElem_cons_succ]
                  refine wpAnyH_ready (rs := [5]) (by kernel_rfl) (by simp) ?_
                  refine AllReadyH.cons rfl (fun K hK => ?_) AllReadyH.nil
                  go_simp
                  go_wp2_with (go_at_call 76; refine (hk_call (rWh_any a ha18 _) hS.drew).mono ?_; rintro e wx ⟨rfl, hS3⟩)
                  refine hK.out _ _ (hS3.lims) (fun hHeld => ?_)
                  clear hK K
                  refine wpAnyH_ready (rs := [7]) (by kernel_rfl) (by simp) ?_
                  refine AllReadyH.cons rfl (fun K hK => ?_) AllReadyH.nil
                  go_simp
                  go_wp2_with (go_at_call 75; refine (hk_call (hcmp1 _) hS3).mono ?_; rintro e wx ⟨rfl, hS3⟩)
                  refine hK.out _ _ (hS3.lims) (fun hHeld => ?_)
                  clear hK K
                  refine wpAnyH_take (i := 8) (v := ?_) rfl (by kernel_rfl) (by kernel_rfl) (by kernel_rfl) (fun _ _ _ h => h) (Or.inl ⟨by rfl, ?_⟩) hHeld ?_
                  rotate_left
                  · intro w hSw; (try dsimp only at hSw); first | (go_simp; done) | (go_simp; with_reducible rfl)
                  try simp only [Act.put, List.setIfInBounds_toArray, List.set_cons_zero, List.set_cons_succ, List.getElem_toArray, List.getElem_cons_zero, List.getElem_cons_succ]
                  refine wpAnyH_take (i := 9) (v := ?_) rfl (by kernel_rfl) (by kernel_rfl) (by kernel_rfl) (fun _ _ _ h => h) (Or.inl ⟨by rfl, ?_⟩) hHeld ?_
                  rotate_left
                  · intro w hSw; (try dsimp only at hSw); first | (go_simp; done) | (go_simp; with_reducible rfl)
                  try simp only [Act.put, List.setIfInBounds_toArray, List.set_cons_zero, List.set_cons_succ, List.getElem_toArray, List.getElem_cons_zero, List.getElem_cons_succ]
                  refine wpAnyH_take (i := 10) (v := ?_) rfl (by kernel_rfl) (by kernel_rfl) (by kernel_rfl) (fun _ _ _ h => h) (Or.inl ⟨by rfl, ?_⟩) hHeld ?_
                  rotate_left
                  · intro w hSw; (try dsimp only at hSw); first | (go_simp; done) | (go_simp; with_reducible rfl)
                  try simp only [Act.put, List.setIfInBounds_toArray, List.set_cons_zero, List.set_cons_succ, List.getElem_toArray, List.getElem_cons_zero, List.getElem_cons_succ]
                  refine wpAnyH_take (i := 11) (v := ?_) rfl (by kernel_rfl) (by kernel_rfl) (by kernel_rfl) (fun _ _ _ h => h) (Or.inl ⟨by rfl, ?_⟩) hHeld ?_
                  rotate_left
                  · intro w hSw; (try dsimp only at hSw); first | (go_simp; done) | (go_simp; with_reducible rfl)
                  try simp only [Act.put, List.setIfInBounds_toArray, List.set_cons_zero, List.set_cons_succ, List.getElem_toArray, List.getElem_cons_zero, List.getElem_cons_succ]
                  refine wpAnyH_take (i := 12) (v := ?_) rfl (by kernel_rfl) (by kernel_rfl) (by kernel_rfl) (fun _ _ _ h => h) (Or.inl ⟨by rfl, ?_⟩) hHeld ?_
                  rotate_left
                  · intro w hSw; (try dsimp only at hSw); first | (go_simp; done) | (go_simp; with_reducible rfl)
                  try simp only [Act.put, List.setIfInBounds_toArray, List.set_cons_zero, List.set_cons_succ, List.getElem_toArray, List.getElem_cons_zero, List.getElem_cons_succ]
                  refine wpAnyH_take (i := 13) (v := ?_) rfl (by kernel_rfl) (by kernel_rfl) (by kernel_rfl) (fun _ _ _ h => h) (Or.inl ⟨by rfl, ?_⟩) hHeld ?_
                  rotate_left
                  · intro w hSw; (try dsimp only at hSw); first | (go_simp; done) | (go_simp; with_reducible rfl)
                  try simp only [Act.put, List.setIfInBounds_toArray, List.set_cons_zero, List.set_cons_succ, List.getElem_toArray, List.getElem_cons_zero, List.getElem_cons_succ]
                  refine wpAnyH_take (i := 14) (v := ?_) rfl (by kernel_rfl) (by kernel_rfl) (by kernel_rfl) (fun _ _ _ h => h) (Or.inl ⟨by rfl, ?_⟩) hHeld ?_
                  rotate_left
                  · intro w hSw; (try dsimp only at hSw); first | (go_simp; done) | (go_simp; with_reducible rfl)
                  try simp only [Act.put, List.setIfInBounds_toArray, List.set_cons_zero, List.set_cons_succ, List.getElem_toArray, List.getElem_cons_zero, List.getElem_cons_succ]
                  refine wpAnyH_take (i := 15) (v := ?_) rfl (by kernel_rfl) (by kernel_rfl) (by kernel_rfl) (fun _ _ _ h => h) (Or.inl ⟨by rfl, ?_⟩) hHeld ?_
                  rotate_left
                  · intro w hSw; (try dsimp only at hSw); first | (go_simp; done) | (go_simp; with_reducible rfl)
                  try simp only [Act.put, List.setIfInBounds_toArray, List.set_cons_zero, List.set_cons_succ, List.getElem_toArray, List.getElem_cons_zero, List.getElem_cons_succ]
                  refine wpAnyH_ready (rs := [16]) (by kernel_rfl) (by simp) ?_
                  refine AllReadyH.cons rfl (fun K hK => ?_) AllReadyH.nil
                  go_simp
                  go_wp2_with (go_at_call 76; refine (hk_call (rWh_any b hb18 _) hS3).mono ?_; rintro e wx ⟨rfl, hS3⟩)
                  refine hK.out _ _ (hS3.lims) (fun hHeld => ?_)
                  clear hK K
                  refine wpAnyH_ready (rs := [17]) (by kernel_rfl) (by simp) ?_
                  refine AllReadyH.cons rfl (fun K hK => ?_) AllReadyH.nil
                  go_simp
                  go_wp2_with (go_at_call 75; refine (hk_call (hcmp2 _) hS3).mono ?_; rintro e wx ⟨rfl, hS3⟩)
                  refine hK.out _ _ (hS3.lims) (fun hHeld => ?_)
                  clear hK K
                  refine wpAnyH_take (i := 18) (v := ?_) rfl (by kernel_rfl) (by kernel_rfl) (by kernel_rfl) (fun _ _ _ h => h) (Or.inl ⟨by rfl, ?_⟩) hHeld ?_
                  rotate_left
                  · intro w hSw; (try dsimp only at hSw); first | (go_simp; done) | (go_simp; with_reducible rfl)
                  try simp only [Act.put, List.setIfInBounds_toArray, List.set_cons_zero, List.set_cons_succ, List.getElem_toArray, List.getElem_cons_zero, List.getElem_cons_succ]
                  refine wpAnyH_take (i := 19) (v := ?_) rfl (by kernel_rfl) (by kernel_rfl) (by kernel_rfl) (fun _ _ _ h => h) (Or.inl ⟨by rfl, ?_⟩) hHeld ?_
                  rotate_left
                  · intro w hSw; (try dsimp only at hSw); first | (go_simp; done) | (go_simp; with_reducible rfl)
                  try simp only [Act.put, List.setIfInBounds_toArray, List.set_cons_zero, List.set_cons_succ, List.getElem_toArray, List.getElem_cons_zero, List.getElem_cons_succ]
                  refine wpAnyH_done (by kernel_rfl) ?_ _
                  have hE := hS3.2.2.2.2
                  have krE := hS3.1
                  have rcE := krE.cell
                  clear hS3 hS hcmp1 hcmp2
                  go_wp2_with fail
                  go_ret
                  exact ⟨ret_bool (by rw [HY0.out, HYES.out]; cases r.nt <;> rfl), hBR.trans (hE.mono hBR.size)⟩
                · have hC2 : ¬ C2 ≤ 0 := fun h => hBB (hle2.1 h)
                  have hD2 : decide (C2 ≤ 0) = false := decide_eq_false hC2
                  have hnxt := HNX.out (fun h => hBB h.2)
                  have HNXT := Lib.hid hnxt
                  clear hnxt hle1 hle2 hA hBB
                  have rc := hS.lims.1
                  go_upto_region 13 with fail
                  clear rc
                  refine wp_region_held_drew (S := fun w' => (∀ o, w'.cell? ⟨w.heap.size, o, none⟩ = #[Value.int .u8 r.op, Value.int .i64 (r.by_ : Int), Value.bool r.nt, Value.slice (some ⟨fg, fo, none⟩) fn fc, Value.slice (some ⟨tg, to_, none⟩) tn tc][o]?) ∧ (∀ o, w'.cell? ⟨w3.heap.size, o, none⟩ = #[Value.bool false, Value.string (digs M), Value.int .i64 (K : Int)][o]?) ∧ w'.cell? ⟨fg, fo + i, none⟩ = some (Value.int .i64 (a : Int)) ∧ w'.cell? ⟨tg, to_ + i, none⟩ = some (Value.int .i64 (b : Int)) ∧ Below wr.heap.size wr w') (by kernel_rfl) (hS.drew.lims) (fun hHeld => ?_)
                  refine wpAnyH_take (i := 0) (v := ?_) rfl (by kernel_rfl) (by kernel_rfl) (by kernel_rfl) (fun _ _ _ h => h) (Or.inl ⟨by rfl, ?_⟩) hHeld ?_
                  rotate_left
                  · intro w hSw; (try dsimp only at hSw); first | (go_simp; done) | (go_simp; with_reducible rfl)
                  try simp only [Act.put, List.setIfInBounds_toArray, List.set_cons_zero, List.set_cons_succ, List.getElem_toArray, List.getElem_cons_zero]
                  refine wpAnyH_take (i := 1) (v := ?_) rfl (by kernel_rfl) (by kernel_rfl) (by kernel_rfl) (fun _ _ _ h => h) (Or.inl ⟨by rfl, ?_⟩) hHeld ?_
                  rotate_left
                  · intro w hSw; (try dsimp only at hSw); first | (go_simp; done) | (go_simp; with_reducible rfl)
                  try simp only [Act.put, List.setIfInBounds_toArray, List.set_cons_zero, List.set_cons_succ, List.getElem_toArray, List.getElem_cons_zero, List.getElem_cons_succ]
                  refine wpAnyH_take (i := 2) (v := ?_) rfl (by kernel_rfl) (by kernel_rfl) (by kernel_rfl) (fun _ _ _ h => h) (Or.inl ⟨by rfl, ?_⟩) hHeld ?_
                  rotate_left
                  · intro w hSw; (try dsimp only at hSw); first | (go_simp; done) | (go_simp; with_reducible rfl)
                  try simp only [Act.put, List.setIfInBounds_toArray, List.set_cons_zero, List.set_cons_succ, List.getElem_toArray, List.getElem_cons_zero, List.getElem_cons_succ]
                  refine wpAnyH_take (i := 3) (v := ?_) rfl (by kernel_rfl) (by kernel_rfl) (by kernel_rfl) (fun _ _ _ h => h) (Or.inl ⟨by rfl, ?_⟩) hHeld ?_
                  rotate_left
                  · intro w hSw; (try dsimp only at hSw); first | (go_simp; done) | (go_simp; with_reducible rfl)
                  try simp only [Act.put, List.setIfInBounds_toArray, List.set_cons_zero, List.set_cons_succ, List.getElem_toArray, List.getElem_cons_zero, List.getElem_cons_succ]
                  refine wpAnyH_take (i := 4) (v := ?_) rfl (by kernel_rfl) (by kernel_rfl) (by kernel_rfl) (fun _ _ _ h => h) (Or.inl ⟨by rfl, ?_⟩) hHeld ?_
                  rotate_left
                  · intro w hSw; (try dsimp only at hSw); first | (go_simp; done) | (go_simp; with_reducible rfl)
                  try simp only [Act.put, List.setIfInBounds_toArray, List.set_cons_zero, List.set_cons_succ, List.getElem_toArray, List.getElem_cons_zero, List.getElem_cons_succ]
                  refine wpAnyH_take (i := 6) (v := ?_) rfl (by kernel_rfl) (by kernel_rfl) (by kernel_rfl) (fun _ _ _ h => h) (Or.inl ⟨by rfl, ?_⟩) hHeld ?_
                  rotate_left
                  · intro w hSw; (try dsimp only at hSw); first | (go_simp; done) | (go_simp; with_reducible rfl)
                  try simp only [Act.put, List.setIfInBounds_toArray, List.set_cons_zero, List.set_cons_succ, List.getElem_toArray, List.getElem_cons_zero, List.getElem_cons_succ]
                  refine wpAnyH_ready (rs := [5]) (by kernel_rfl) (by simp) ?_
                  refine AllReadyH.cons rfl (fun K hK => ?_) AllReadyH.nil
                  go_simp
                  go_wp2_with (go_at_call 76; refine (hk_call (rWh_any a ha18 _) hS.drew).mono ?_; rintro e wx ⟨rfl, hS3⟩)
                  refine hK.out _ _ (hS3.lims) (fun hHeld => ?_)
                  clear hK K
                  refine wpAnyH_ready (rs := [7]) (by kernel_rfl) (by simp) ?_
                  refine AllReadyH.cons rfl (fun K hK => ?_) AllReadyH.nil
                  go_simp
                  go_wp2_with (go_at_call 75; refine (hk_call (hcmp1 _) hS3).mono ?_; rintro e wx ⟨rfl, hS3⟩)
                  refine hK.out _ _ (hS3.lims) (fun hHeld => ?_)
                  clear hK K
                  refine wpAnyH_take (i := 8) (v := ?_) rfl (by kernel_rfl) (by kernel_rfl) (by kernel_rfl) (fun _ _ _ h => h) (Or.inl ⟨by rfl, ?_⟩) hHeld ?_
                  rotate_left
                  · intro w hSw; (try dsimp only at hSw); first | (go_simp; done) | (go_simp; with_reducible rfl)
                  try simp only [Act.put, List.setIfInBounds_toArray, List.set_cons_zero, List.set_cons_succ, List.getElem_toArray, List.getElem_cons_zero, List.getElem_cons_succ]
                  refine wpAnyH_take (i := 9) (v := ?_) rfl (by kernel_rfl) (by kernel_rfl) (by kernel_rfl) (fun _ _ _ h => h) (Or.inl ⟨by rfl, ?_⟩) hHeld ?_
                  rotate_left
                  · intro w hSw; (try dsimp only at hSw); first | (go_simp; done) | (go_simp; with_reducible rfl)
                  try simp only [Act.put, List.setIfInBounds_toArray, List.set_cons_zero, List.set_cons_succ, List.getElem_toArray, List.getElem_cons_zero, List.getElem_cons_succ]
                  refine wpAnyH_take (i := 10) (v := ?_) rfl (by kernel_rfl) (by kernel_rfl) (by kernel_rfl) (fun _ _ _ h => h) (Or.inl ⟨by rfl, ?_⟩) hHeld ?_
                  rotate_left
                  · intro w hSw; (try dsimp only at hSw); first | (go_simp; done) | (go_simp; with_reducible rfl)
                  try simp only [Act.put, List.setIfInBounds_toArray, List.set_cons_zero, List.set_cons_succ, List.getElem_toArray, List.getElem_cons_zero, List.getElem_cons_succ]
                  refine wpAnyH_take (i := 11) (v := ?_) rfl (by kernel_rfl) (by kernel_rfl) (by kernel_rfl) (fun _ _ _ h => h) (Or.inl ⟨by rfl, ?_⟩) hHeld ?_
                  rotate_left
                  · intro w hSw; (try dsimp only at hSw); first | (go_simp; done) | (go_simp; with_reducible rfl)
                  try simp only [Act.put, List.setIfInBounds_toArray, List.set_cons_zero, List.set_cons_succ, List.getElem_toArray, List.getElem_cons_zero, List.getElem_cons_succ]
                  refine wpAnyH_take (i := 12) (v := ?_) rfl (by kernel_rfl) (by kernel_rfl) (by kernel_rfl) (fun _ _ _ h => h) (Or.inl ⟨by rfl, ?_⟩) hHeld ?_
                  rotate_left
                  · intro w hSw; (try dsimp only at hSw); first | (go_simp; done) | (go_simp; with_reducible rfl)
                  try simp only [Act.put, List.setIfInBounds_toArray, List.set_cons_zero, List.set_cons_succ, List.getElem_toArray, List.getElem_cons_zero, List.getElem_cons_succ]
                  refine wpAnyH_take (i := 13) (v := ?_) rfl (by kernel_rfl) (by kernel_rfl) (by kernel_rfl) (fun _ _ _ h => h) (Or.inl ⟨by rfl, ?_⟩) hHeld ?_
                  rotate_left
                  · intro w hSw; (try dsimp only at hSw); first | (go_simp; done) | (go_simp; with_reducible rfl)
                  try simp only [Act.put, List.setIfInBounds_toArray, List.set_cons_zero, List.set_cons_succ, List.getElem_toArray, List.getElem_cons_zero, List.getElem_cons_succ]
                  refine wpAnyH_take (i := 14) (v := ?_) rfl (by kernel_rfl) (by kernel_rfl) (by kernel_rfl) (fun _ _ _ h => h) (Or.inl ⟨by rfl, ?_⟩) hHeld ?_
                  rotate_left
                  · intro w hSw; (try dsimp only at hSw); first | (go_simp; done) | (go_simp; with_reducible rfl)
                  try simp only [Act.put, List.setIfInBounds_toArray, List.set_cons_zero, List.set_cons_succ, List.getElem_toArray, List.getElem_cons_zero, List.getElem_cons_succ]
                  refine wpAnyH_take (i := 15) (v := ?_) rfl (by kernel_rfl) (by kernel_rfl) (by kernel_rfl) (fun _ _ _ h => h) (Or.inl ⟨by rfl, ?_⟩) hHeld ?_
                  rotate_left
                  · intro w hSw; (try dsimp only at hSw); first | (go_simp; done) | (go_simp; with_reducible rfl)
                  try simp only [Act.put, List.setIfInBounds_toArray, List.set_cons_zero, List.set_cons_succ, List.getElem_toArray, List.getElem_cons_zero, List.getElem_cons_succ]
                  refine wpAnyH_ready (rs := [16]) (by kernel_rfl) (by simp) ?_
                  refine AllReadyH.cons rfl (fun K hK => ?_) AllReadyH.nil
                  go_simp
                  go_wp2_with (go_at_call 76; refine (hk_call (rWh_any b hb18 _) hS3).mono ?_; rintro e wx ⟨rfl, hS3⟩)
                  refine hK.out _ _ (hS3.lims) (fun hHeld => ?_)
                  clear hK K
                  refine wpAnyH_ready (rs := [17]) (by kernel_rfl) (by simp) ?_
                  refine AllReadyH.cons rfl (fun K hK => ?_) AllReadyH.nil
                  go_simp
                  go_wp2_with (go_at_call 75; refine (hk_call (hcmp2 _) hS3).mono ?_; rintro e wx ⟨rfl, hS3⟩)
                  refine hK.out _ _ (hS3.lims) (fun hHeld => ?_)
                  clear hK K
                  refine wpAnyH_take (i := 18) (v := ?_) rfl (by kernel_rfl) (by kernel_rfl) (by kernel_rfl) (fun _ _ _ h => h) (Or.inl ⟨by rfl, ?_⟩) hHeld ?_
                  rotate_left
                  · intro w hSw; (try dsimp only at hSw); first | (go_simp; done) | (go_simp; with_reducible rfl)
                  try simp only [Act.put, List.setIfInBounds_toArray, List.set_cons_zero, List.set_cons_succ, List.getElem_toArray, List.getElem_cons_zero, List.getElem_cons_succ]
                  refine wpAnyH_take (i := 19) (v := ?_) rfl (by kernel_rfl) (by kernel_rfl) (by kernel_rfl) (fun _ _ _ h => h) (Or.inl ⟨by rfl, ?_⟩) hHeld ?_
                  rotate_left
                  · intro w hSw; (try dsimp only at hSw); first | (go_simp; done) | (go_simp; with_reducible rfl)
                  try simp only [Act.put, List.setIfInBounds_toArray, List.set_cons_zero, List.set_cons_succ, List.getElem_toArray, List.getElem_cons_zero, List.getElem_cons_succ]
                  refine wpAnyH_done (by kernel_rfl) ?_ _
                  have hE := hS3.2.2.2.2
                  clear hS3 hS hcmp1 hcmp2
                  go_wp2_with fail
                  go_roundg (fn - i)
                  case rel => exact ⟨i + 1, by simp, by have := HG.out; have := HLT.out; omega, HLT.out, HNXT.out, hBr.trans (hE.mono hBr.size)⟩
                  case measure => have := HG.out; have := HLT.out; omega
              · have hC1 : ¬ C1 ≤ 0 := fun h => hA (hle1.1 h)
                have hD1 : decide (C1 ≤ 0) = false := decide_eq_false hC1
                have hnxt := HNX.out (fun h => hA h.1)
                have HNXT := Lib.hid hnxt
                clear hnxt hle1 hle2 hA
                have rc := hS.lims.1
                go_upto_region 13 with fail
                clear rc
                refine wp_region_held_drew (S := fun w' => (∀ o, w'.cell? ⟨w.heap.size, o, none⟩ = #[Value.int .u8 r.op, Value.int .i64 (r.by_ : Int), Value.bool r.nt, Value.slice (some ⟨fg, fo, none⟩) fn fc, Value.slice (some ⟨tg, to_, none⟩) tn tc][o]?) ∧ (∀ o, w'.cell? ⟨w3.heap.size, o, none⟩ = #[Value.bool false, Value.string (digs M), Value.int .i64 (K : Int)][o]?) ∧ w'.cell? ⟨fg, fo + i, none⟩ = some (Value.int .i64 (a : Int)) ∧ w'.cell? ⟨tg, to_ + i, none⟩ = some (Value.int .i64 (b : Int)) ∧ Below wr.heap.size wr w') (by kernel_rfl) (hS.drew.lims) (fun hHeld => ?_)
                refine wpAnyH_take (i := 0) (v := ?_) rfl (by kernel_rfl) (by kernel_rfl) (by kernel_rfl) (fun _ _ _ h => h) (Or.inl ⟨by rfl, ?_⟩) hHeld ?_
                rotate_left
                · intro w hSw; (try dsimp only at hSw); first | (go_simp; done) | (go_simp; with_reducible rfl)
                try simp only [Act.put, List.setIfInBounds_toArray, List.set_cons_zero, List.set_cons_succ, List.getElem_toArray, List.getElem_cons_zero]
                refine wpAnyH_take (i := 1) (v := ?_) rfl (by kernel_rfl) (by kernel_rfl) (by kernel_rfl) (fun _ _ _ h => h) (Or.inl ⟨by rfl, ?_⟩) hHeld ?_
                rotate_left
                · intro w hSw; (try dsimp only at hSw); first | (go_simp; done) | (go_simp; with_reducible rfl)
                try simp only [Act.put, List.setIfInBounds_toArray, List.set_cons_zero, List.set_cons_succ, List.getElem_toArray, List.getElem_cons_zero, List.getElem_cons_succ]
                refine wpAnyH_take (i := 2) (v := ?_) rfl (by kernel_rfl) (by kernel_rfl) (by kernel_rfl) (fun _ _ _ h => h) (Or.inl ⟨by rfl, ?_⟩) hHeld ?_
                rotate_left
                · intro w hSw; (try dsimp only at hSw); first | (go_simp; done) | (go_simp; with_reducible rfl)
                try simp only [Act.put, List.setIfInBounds_toArray, List.set_cons_zero, List.set_cons_succ, List.getElem_toArray, List.getElem_cons_zero, List.getElem_cons_succ]
                refine wpAnyH_take (i := 3) (v := ?_) rfl (by kernel_rfl) (by kernel_rfl) (by kernel_rfl) (fun _ _ _ h => h) (Or.inl ⟨by rfl, ?_⟩) hHeld ?_
                rotate_left
                · intro w hSw; (try dsimp only at hSw); first | (go_simp; done) | (go_simp; with_reducible rfl)
                try simp only [Act.put, List.setIfInBounds_toArray, List.set_cons_zero, List.set_cons_succ, List.getElem_toArray, List.getElem_cons_zero, List.getElem_cons_succ]
                refine wpAnyH_take (i := 4) (v := ?_) rfl (by kernel_rfl) (by kernel_rfl) (by kernel_rfl) (fun _ _ _ h => h) (Or.inl ⟨by rfl, ?_⟩) hHeld ?_
                rotate_left
                · intro w hSw; (try dsimp only at hSw); first | (go_simp; done) | (go_simp; with_reducible rfl)
                try simp only [Act.put, List.setIfInBounds_toArray, List.set_cons_zero, List.set_cons_succ, List.getElem_toArray, List.getElem_cons_zero, List.getElem_cons_succ]
                refine wpAnyH_take (i := 6) (v := ?_) rfl (by kernel_rfl) (by kernel_rfl) (by kernel_rfl) (fun _ _ _ h => h) (Or.inl ⟨by rfl, ?_⟩) hHeld ?_
                rotate_left
                · intro w hSw; (try dsimp only at hSw); first | (go_simp; done) | (go_simp; with_reducible rfl)
                try simp only [Act.put, List.setIfInBounds_toArray, List.set_cons_zero, List.set_cons_succ, List.getElem_toArray, List.getElem_cons_zero, List.getElem_cons_succ]
                refine wpAnyH_ready (rs := [5]) (by kernel_rfl) (by simp) ?_
                refine AllReadyH.cons rfl (fun K hK => ?_) AllReadyH.nil
                go_simp
                go_wp2_with (go_at_call 76; refine (hk_call (rWh_any a ha18 _) hS.drew).mono ?_; rintro e wx ⟨rfl, hS3⟩)
                refine hK.out _ _ (hS3.lims) (fun hHeld => ?_)
                clear hK K
                refine wpAnyH_ready (rs := [7]) (by kernel_rfl) (by simp) ?_
                refine AllReadyH.cons rfl (fun K hK => ?_) AllReadyH.nil
                go_simp
                go_wp2_with (go_at_call 75; refine (hk_call (hcmp1 _) hS3).mono ?_; rintro e wx ⟨rfl, hS3⟩)
                refine hK.out _ _ (hS3.lims) (fun hHeld => ?_)
                clear hK K
                refine wpAnyH_take (i := 8) (v := ?_) rfl (by kernel_rfl) (by kernel_rfl) (by kernel_rfl) (fun _ _ _ h => h) (Or.inl ⟨by rfl, ?_⟩) hHeld ?_
                rotate_left
                · intro w hSw; (try dsimp only at hSw); first | (go_simp; done) | (go_simp; with_reducible rfl)
                try simp only [Act.put, List.setIfInBounds_toArray, List.set_cons_zero, List.set_cons_succ, List.getElem_toArray, List.getElem_cons_zero, List.getElem_cons_succ]
                refine wpAnyH_take (i := 9) (v := ?_) rfl (by kernel_rfl) (by kernel_rfl) (by kernel_rfl) (fun _ _ _ h => h) (Or.inl ⟨by rfl, ?_⟩) hHeld ?_
                rotate_left
                · intro w hSw; (try dsimp only at hSw); first | (go_simp; done) | (go_simp; with_reducible rfl)
                try simp only [Act.put, List.setIfInBounds_toArray, List.set_cons_zero, List.set_cons_succ, List.getElem_toArray, List.getElem_cons_zero, List.getElem_cons_succ]
                refine wpAnyH_take (i := 10) (v := undef) rfl (by kernel_rfl) (by kernel_rfl) (by kernel_rfl) (fun _ _ _ h => h) (Or.inr ⟨by rfl, rfl⟩) hHeld ?_
                try simp only [Act.put, List.setIfInBounds_toArray, List.set_cons_zero, List.set_cons_succ, List.getElem_toArray, List.getElem_cons_zero, List.getElem_cons_succ]
                refine wpAnyH_take (i := 11) (v := undef) rfl (by kernel_rfl) (by kernel_rfl) (by kernel_rfl) (fun _ _ _ h => h) (Or.inr ⟨by rfl, rfl⟩) hHeld ?_
                try simp only [Act.put, List.setIfInBounds_toArray, List.set_cons_zero, List.set_cons_succ, List.getElem_toArray, List.getElem_cons_zero, List.getElem_cons_succ]
                refine wpAnyH_take (i := 12) (v := undef) rfl (by kernel_rfl) (by kernel_rfl) (by kernel_rfl) (fun _ _ _ h => h) (Or.inr ⟨by rfl, rfl⟩) hHeld ?_
                try simp only [Act.put, List.setIfInBounds_toArray, List.set_cons_zero, List.set_cons_succ, List.getElem_toArray, List.getElem_cons_zero, List.getElem_cons_succ]
                refine wpAnyH_take (i := 13) (v := undef) rfl (by kernel_rfl) (by kernel_rfl) (by kernel_rfl) (fun _ _ _ h => h) (Or.inr ⟨by rfl, rfl⟩) hHeld ?_
                try simp only [Act.put, List.setIfInBounds_toArray, List.set_cons_zero, List.set_cons_succ, List.getElem_toArray, List.getElem_cons_zero, List.getElem_cons_succ]
                refine wpAnyH_take (i := 14) (v := undef) rfl (by kernel_rfl) (by kernel_rfl) (by kernel_rfl) (fun _ _ _ h => h) (Or.inr ⟨by rfl, rfl⟩) hHeld ?_
                try simp only [Act.put, List.setIfInBounds_toArray, List.set_cons_zero, List.set_cons_succ, List.getElem_toArray, List.getElem_cons_zero, List.getElem_cons_succ]
                refine wpAnyH_take (i := 15) (v := undef) rfl (by kernel_rfl) (by kernel_rfl) (by kernel_rfl) (fun _ _ _ h => h) (Or.inr ⟨by rfl, rfl⟩) hHeld ?_
                try simp only [Act.put, List.setIfInBounds_toArray, List.set_cons_zero, List.set_cons_succ, List.getElem_toArray, List.getElem_cons_zero, List.getElem_cons_succ]
                refine wpAnyH_take (i := 16) (v := undef) rfl (by kernel_rfl) (by kernel_rfl) (by kernel_rfl) (fun _ _ _ h => h) (Or.inr ⟨by rfl, rfl⟩) hHeld ?_
                try simp only [Act.put, List.setIfInBounds_toArray, List.set_cons_zero, List.set_cons_succ, List.getElem_toArray, List.getElem_cons_zero, List.getElem_cons_succ]
                refine wpAnyH_take (i := 17) (v := undef) rfl (by kernel_rfl) (by kernel_rfl) (by kernel_rfl) (fun _ _ _ h => h) (Or.inr ⟨by rfl, rfl⟩) hHeld ?_
                try simp only [Act.put, List.setIfInBounds_toArray, List.set_cons_zero, List.set_cons_succ, List.getElem_toArray, List.getElem_cons_zero, List.getElem_cons_succ]
                refine wpAnyH_take (i := 18) (v := undef) rfl (by kernel_rfl) (by kernel_rfl) (by kernel_rfl) (fun _ _ _ h => h) (Or.inr ⟨by rfl, rfl⟩) hHeld ?_
                try simp only [Act.put, List.setIfInBounds_toArray, List.set_cons_zero, List.set_cons_succ, List.getElem_toArray, List.getElem_cons_zero, List.getElem_cons_succ]
                refine wpAnyH_take (i := 19) (v := ?_) rfl (by kernel_rfl) (by kernel_rfl) (by kernel_rfl) (fun _ _ _ h => h) (Or.inl ⟨by rfl, ?_⟩) hHeld ?_
                rotate_left
                · intro w hSw; (try dsimp only at hSw); first | (go_simp; done) | (go_simp; with_reducible rfl)
                try simp only [Act.put, List.setIfInBounds_toArray, List.set_cons_zero, List.set_cons_succ, List.getElem_toArray, List.getElem_cons_zero, List.getElem_cons_succ]
                refine wpAnyH_done (by kernel_rfl) ?_ _
                have hE := hS3.2.2.2.2
                clear hS3 hS hcmp1 hcmp2
                go_wp2_with fail
                go_roundg (fn - i)
                case rel => exact ⟨i + 1, by simp, by have := HG.out; have := HLT.out; omega, HLT.out, HNXT.out, hBr.trans (hE.mono hBr.size)⟩
                case measure => have := HG.out; have := HLT.out; omega
            · have hiI : ¬ (i : Int) < fn := by omega
              have hnoB : inD r.rs (M, K) = false := by
                unfold inD inRs
                rw [decide_eq_true HZ0.out, Bool.true_and]
                refine List.any_eq_false.2 fun y hy => ?_
                obtain ⟨j, hj, rfl⟩ := List.getElem_of_mem hy
                have h := hno j hj (by have := HLL.out; omega)
                simpa using h
              have HNOB := Lib.hid hnoB
              have rc := kr.cell
              clear hno hnoB hF hT hlt hg hi
              go_wp2_with fail
              go_ret
              exact ⟨ret_bool (by rw [HY0.out, HNOB.out]; cases r.nt <;> rfl), hBR⟩
end Go.Proofs.YtgbemhehbhlgpaaGreatDoor
