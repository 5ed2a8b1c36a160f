/-
  Rules for numbers: is a value a whole number of one of the ranges: the walk of in and its closure.
-/
import Derived.Test.YtgbemhehbhlgpaaGreatDoorPlE
import Derived.Test.YtgbemhehbhlgpaaGreatDoorGRow
import Derived.Deep.RegionHeld3
namespace Go.Proofs.YtgbemhehbhlgpaaGreatDoor
open Go.RowKit Go.PlainAid

theorem PG.of {w w' : World} (h : PG w) (hB : Below w.heap.size w w') : PG w' := h.on hB
theorem lt_nine {n : Nat} (h : n < 1000000000) : (digs n).size ≤ 400 := Nat.le_trans (digs_le (m := 9) (by omega) (by decide)) (by decide)
theorem cmp_digs (q n : Nat) : cmpD false (digs q) 0 false (digs n) 0 = cmpN q n := by
  unfold cmpD
  rw [dval_digs, dval_digs]
  simp only [sv_false, Nat.max_self, Nat.sub_self, Nat.pow_zero, Nat.mul_one]
  unfold cmpZ cmpN
  simp only [Int.ofNat_lt]
theorem compare_whole (q n : Nat) (hq : (digs q).size ≤ 400) (hn : n < 1000000000) (w : World) :
    Calls Tryz.prog 101 #[.agg #[.bool false, .string (digs q), .int .i64 0], .agg #[.bool false, .string (digs n), .int .i64 0]] w fun e w' => e = .returned (.tuple #[.int .i64 (cmpN q n), .int .i64 0]) ∧ Below w.heap.size w w' := by
  have h := compare_yes (n1 := false) (d1 := digs q) (k1 := 0) (n2 := false) (d2 := digs n) (k2 := 0) (NS.right (x := (q, 0)) ⟨hq, Nat.zero_le _⟩) (NS.right (x := (n, 0)) ⟨lt_nine hn, Nat.zero_le _⟩) w
  rw [cmp_digs] at h
  exact h
theorem cmpN_ge (q n : Nat) : (0 ≤ cmpN q n ↔ n ≤ q) ∧ (cmpN q n ≤ 0 ↔ q ≤ n) := by
  rcases cmpN_cases q n with ⟨h, e⟩ | ⟨h, e⟩ | ⟨h, e⟩ <;> rw [e] <;> constructor <;> constructor <;> intro g <;> omega

def SpE : ETy (Nat × Nat) where
  T := 131
  ST := 129
  sz := 2
  bs := 16
  z := .agg #[.int .i64 0, .int .i64 0]
  enc := fun x => [.int .i64 x.1, .int .i64 x.2]
  hsz := by decide
  hbs := by decide
  hlen := fun _ => rfl
  hz := rfl
  info := by kernel_rfl
  und := Tryz.underlying129
  hone := fun _ => by simp [Value.oneCell']

set_option maxRecDepth 100000 in
set_option maxHeartbeats 4000000 in
theorem in1_any (q a b wb : Nat) (w : World) (hq : (digs q).size ≤ 400) (ha : a < 1000000000) (hb : b < 1000000000) (hk : Blk w wb #[.bool false, .string (digs q), .int .i64 0]) (hP : PG w) :
    Calls Tryz.prog 100 #[.agg #[.int .i64 a, .int .i64 b], .pointer (some ⟨wb, 0, none⟩)] w fun e w' => e = .returned (.bool (decide (a ≤ q ∧ q ≤ b))) ∧ Below w.heap.size w w' := by
  have hfa := of_nat a (by omega)
  have hfb := of_nat b (by omega)
  have hca := compare_whole q a hq ha
  have hcb := compare_whole q b hq hb
  obtain ⟨la, _⟩ := cmpN_ge q a
  obtain ⟨_, lb⟩ := cmpN_ge q b
  have hB := (Below.refl w.heap.size w).alloc (Nat.le_refl _) (.cells #[.int .i64 a, .int .i64 b] 131)
  have hk0 := hk.alloc (.cells #[.int .i64 a, .int .i64 b] 131)
  have hk1 := Blk.new w #[.int .i64 a, .int .i64 b] 131
  have hS := Hold2.mk hk0 hk1 hB (Nat.le_refl _)
  have hres : ∀ A B : Int, A = cmpN q a → B = cmpN q b → (decide (a ≤ q ∧ q ≤ b)) = (decide (0 ≤ A) && decide (B ≤ 0)) := by
    rintro A B rfl rfl
    rw [Bool.eq_iff_iff, decide_eq_true_iff, Bool.and_eq_true, decide_eq_true_iff, decide_eq_true_iff, la, lb]
  have HRES := Lib.hid (hres _ _ rfl rfl)
  clear la lb hres hk hk0 hk1 hB
  generalize decide (a ≤ q ∧ q ≤ b) = R at *
  generalize cmpN q a = A at *
  generalize cmpN q b = B at *
  generalize digs q = D at *
  generalize digs a = DA at *
  generalize digs b = DB at *
  go_enter Tryz.func100, Tryz.ntmps100
  go_wp2_with fail
  go_region_held3 (fun w' => (∀ o, w'.cell? ⟨wb, o, none⟩ = #[Value.bool false, Value.string D, Value.int .i64 0][o]?) ∧ (∀ o, w'.cell? ⟨w.heap.size, o, none⟩ = #[Value.int .i64 (a : Int), Value.int .i64 (b : Int)][o]?) ∧ Below w.heap.size w w')
    (first | exact hS4.two | exact hS3.two | exact hS.drew.two)
    (first
      | (go_at_call 30; refine (hold_call (hfa _ (hP.on (by first | exact hS3.2.2.2.2.1 | exact hS.drew.2.2.2.2.1))) (by first | exact hS3 | exact hS.drew)).mono ?_; rintro e w3 ⟨rfl, hS3⟩)
      | (go_at_call 101; refine (hold_call (hca _) (by first | exact hS3)).mono ?_; rintro e w4 ⟨rfl, hS4⟩))
  have hT := hS4
  clear hS3 hS4 hS hfa hca
  go_upto_region 2 with fail
  go_region_held3 (fun w' => (∀ o, w'.cell? ⟨wb, o, none⟩ = #[Value.bool false, Value.string D, Value.int .i64 0][o]?) ∧ (∀ o, w'.cell? ⟨w.heap.size, o, none⟩ = #[Value.int .i64 (a : Int), Value.int .i64 (b : Int)][o]?) ∧ Below w.heap.size w w')
    (first | exact hT4.two | exact hT3.two | exact hT.drew.two)
    (first
      | (go_at_call 30; refine (hold_call (hfb _ (hP.on (by first | exact hT3.2.2.2.2.1 | exact hT.drew.2.2.2.2.1))) (by first | exact hT3 | exact hT.drew)).mono ?_; rintro e w5 ⟨rfl, hT3⟩)
      | (go_at_call 101; refine (hold_call (hcb _) (by first | exact hT3)).mono ?_; rintro e w6 ⟨rfl, hT4⟩))
  have hBw := hT4.2.2.2.2.1
  clear hT3 hT4 hT hfb hcb
  by_cases hA : 0 ≤ A
  · go_wp2_with fail
    go_ret
    exact ⟨ret_bool (by rw [HRES.out, decide_eq_true hA, Bool.true_and]), hBw⟩
  · go_wp2_with fail
    go_ret
    exact ⟨ret_bool (by rw [HRES.out, decide_eq_false (by omega), Bool.false_and]), hBw⟩

/-- Does one of n things that are asked one behind the other say yes? -/
def anyB (b : Nat → Bool) (n : Nat) : Bool := (List.range n).any b
theorem anyB_yes {b : Nat → Bool} {n i : Nat} (hi : i < n) (h : b i = true) : anyB b n = true := List.any_eq_true.2 ⟨i, List.mem_range.2 hi, h⟩
theorem anyB_no {b : Nat → Bool} {n : Nat} (h : ∀ i, i < n → b i = false) : anyB b n = false := List.any_eq_false.2 fun i hi => by rw [h i (List.mem_range.1 hi)]; decide
theorem anyB_list {α : Type} (l : List α) (p : α → Bool) (b : Nat → Bool) (h : ∀ i (hi : i < l.length), b i = p l[i]) : anyB b l.length = l.any p := by
  rw [Bool.eq_iff_iff]
  unfold anyB
  rw [List.any_eq_true, List.any_eq_true]
  constructor
  · rintro ⟨i, hi, hb⟩
    have hi := List.mem_range.1 hi
    exact ⟨l[i], List.getElem_mem hi, by rw [← h i hi]; exact hb⟩
  · rintro ⟨x, hx, hb⟩
    obtain ⟨i, hi, rfl⟩ := List.mem_iff_getElem.1 hx
    exact ⟨i, List.mem_range.2 hi, by rw [h i hi]; exact hb⟩
set_option maxRecDepth 100000 in
set_option maxHeartbeats 2000000 in
theorem idx_span (g : Nat) (lb : Array Value) (eg : ∀ args w, (callFunc g args).run Tryz.prog w = .ok (.enter g args) w) (v : Value) (l : List (Nat × Nat)) (w : World) (hv : GAt SpE w v l) (hl : l.length ≤ 100000000)
    (b : Nat → Bool) (hp : ∀ (W : World) (i : Nat) (hi : i < l.length), Below w.heap.size w W → Calls Tryz.prog g (#[.agg #[.int .i64 (l[i]).1, .int .i64 (l[i]).2]] ++ lb) W fun e w' => e = .returned (.bool (b i)) ∧ Below W.heap.size W w') :
    Calls Tryz.prog 124 #[v, .func (.func g) #[] lb] w fun e w' => (∃ k : Int, e = .returned (.int .i64 k) ∧ decide (0 ≤ k) = anyB b l.length) ∧ Below w.heap.size w w' := by
  obtain ⟨a, cap, rfl, hc⟩ := hv
  have HC := Lib.hid hc
  have HP := Lib.hid hp
  clear hc hp
  go_enter Tryz.func124, Tryz.ntmps124
  go_wp2_with fail
  go_loopg [8] l.length (fun gg s8 wr => ∃ i : Nat, s8 = .int .i64 (i : Int) ∧ i + gg = l.length ∧ (∀ j, j < i → b j = false) ∧ Below w.heap.size w wr)
  case atStart => exact ⟨0, rfl, by omega, fun j hj => absurd hj (by omega), Below.refl _ _⟩
  case round =>
    obtain ⟨i, rfl, hg, hm, hB⟩ := hrel
    have HM := Lib.hid hm
    clear hm
    by_cases hi : i < l.length
    · obtain ⟨gb, off, rfl, hgw, h0⟩ := HC.out i hi
      have cS := HP.out wr i hi hB
      have hgr : gb < wr.heap.size := by have := hB.size; omega
      have h1 := h0 0 (by decide)
      have h2 := h0 1 (by decide)
      have e0 := (hB.cell (p := ⟨gb, off + (i * 2 + 0), none⟩) hgw).trans h1
      have e1 := (hB.cell (p := ⟨gb, off + (i * 2 + 1), none⟩) hgw).trans h2
      rw [show off + (i * 2 + 0) = off + i * 2 by omega] at e0
      rw [show off + (i * 2 + 1) = off + i * 2 + 1 by omega] at e1
      have d0 : wr.cell? ⟨gb, off + i * 2, none⟩ = some (.int .i64 (l[i]).1) := e0
      have d1 : wr.cell? ⟨gb, off + i * 2 + 1, none⟩ = some (.int .i64 (l[i]).2) := e1
      clear h1 h2 e0 e1
      have hiI : (i : Int) < l.length := by omega
      clear h0
      generalize hx : l[i] = x at *
      obtain ⟨xa, xb⟩ := x
      simp only at d0 d1 cS
      cases hb : b i with
      | true =>
        rw [hb] at cS
        have hany := anyB_yes hi hb
        have HA := Lib.hid hany
        have hi0 : (0 : Int) ≤ i := by omega
        clear hb hx hany
        go_wp2_with (go_at_fn g; refine cS.mono ?_; rintro e W' ⟨rfl, hbc⟩)
        go_ret
        exact ⟨⟨_, rfl, by rw [HA.out]; exact decide_eq_true hi0⟩, hB.trans (hbc.mono hB.size)⟩
      | false =>
        rw [hb] at cS
        have hm2 : ∀ j, j < i + 1 → b j = false := fun j hj => by
          by_cases e : j = i
          · rw [e]; exact hb
          · exact HM.out j (by omega)
        have HM2 := Lib.hid hm2
        clear hb hx hm2
        go_wp2_with (go_at_fn g; refine cS.mono ?_; rintro e W' ⟨rfl, hbc⟩)
        go_roundg (gk - 1)
        case rel => exact ⟨i + 1, by push_cast; rfl, by omega, HM2.out, hB.trans (hbc.mono hB.size)⟩
        case measure => omega
    · have hend : anyB b l.length = false := anyB_no (fun j hj => HM.out j (by omega))
      have HE := Lib.hid hend
      have hiI : ¬ (i : Int) < l.length := by omega
      clear hend
      go_wp2_with fail
      go_ret
      exact ⟨⟨_, rfl, by rw [HE.out]; rfl⟩, hB⟩
set_option maxRecDepth 100000 in
theorem has_span (g : Nat) (lb : Array Value) (eg : ∀ args w, (callFunc g args).run Tryz.prog w = .ok (.enter g args) w) (v : Value) (l : List (Nat × Nat)) (w : World) (hv : GAt SpE w v l) (hl : l.length ≤ 100000000)
    (b : Nat → Bool) (hp : ∀ (W : World) (i : Nat) (hi : i < l.length), Below w.heap.size w W → Calls Tryz.prog g (#[.agg #[.int .i64 (l[i]).1, .int .i64 (l[i]).2]] ++ lb) W fun e w' => e = .returned (.bool (b i)) ∧ Below W.heap.size W w') :
    Calls Tryz.prog 99 #[v, .func (.func g) #[] lb] w fun e w' => e = .returned (.bool (anyB b l.length)) ∧ Below w.heap.size w w' := by
  have c := idx_span g lb eg v l w hv hl b hp
  clear hp hv
  go_enter Tryz.func99, Tryz.ntmps99
  go_wp2_with fail
  refine c.mono ?_
  rintro e w' ⟨⟨k, rfl, hk⟩, hB⟩
  have HK := Lib.hid hk
  clear hk
  by_cases h0 : 0 ≤ k
  · go_wp2_with fail
    go_ret
    exact ⟨ret_bool (by rw [← HK.out, decide_eq_true h0]), hB⟩
  · go_wp2_with fail
    go_ret
    exact ⟨ret_bool (by rw [← HK.out, decide_eq_false (by omega)]), hB⟩


set_option maxRecDepth 100000 in
set_option maxHeartbeats 4000000 in
theorem in_any (x : Nat × Nat) (v : Value) (rs : List (Nat × Nat)) (w : World) (hx : NS x) (hv : GAt SpE w v rs) (hl : rs.length ≤ 100000000) (hr : ∀ r ∈ rs, r.1 < 1000000000 ∧ r.2 < 1000000000) (hP : PG w) :
    Calls Tryz.prog 69 #[.agg #[.bool false, .string (digs x.1), .int .i64 x.2], v] w fun e w' => e = .returned (.bool (inD rs x)) ∧ Below w.heap.size w w' := by
  obtain ⟨n, k⟩ := x
  obtain ⟨hn, hk⟩ := hx
  simp only at hn hk
  have htr := fun W => trim_yes false (digs n) k 0 W (NS.right (x := (n, k)) ⟨hn, hk⟩) (by decide)
  rw [Nat.sub_zero] at htr
  obtain ⟨t1, t2⟩ := trim_digs k n
  have hkI : (k : Int) ≤ 400 := by omega
  by_cases hd : n % 10 ^ k = 0
  · obtain ⟨e1, e2⟩ := t1 hd
    rw [e1, e2] at htr
    have hq : (digs (n / 10 ^ k)).size ≤ 400 := Nat.le_trans (digs_mono (Nat.div_le_self _ _)) hn
    have hin : inD rs (n, k) = inRs rs (n / 10 ^ k) := by unfold inD; simp [hd]
    rw [hin]
    generalize hQ : n / 10 ^ k = q at *
    have hany : anyB (fun i => decide ((rs.getD i (0, 0)).1 ≤ q ∧ q ≤ (rs.getD i (0, 0)).2)) rs.length = inRs rs q := by
      refine anyB_list rs _ _ fun i hi => ?_
      rw [List.getD_eq_getElem?_getD, List.getElem?_eq_getElem hi]
      rfl
    have HA := Lib.hid hany
    have hk0 : IntKind.i64.wrap ((k : Int) - k) = 0 := by rw [Int.sub_self]; rfl
    have hs0 : ((k : Int) - (k : Nat)) = 0 := Int.sub_self _
    rw [hs0] at htr
    have hcl : ∀ (W : World) (wb : Nat), Blk W wb #[.bool false, .string (digs q), .int .i64 0] → Below w.heap.size w W → GAt SpE W v rs →
        Calls Tryz.prog 99 #[v, .func (.func 100) #[] #[.pointer (some ⟨wb, 0, none⟩)]] W fun e w' => e = .returned (.bool (inRs rs q)) ∧ Below W.heap.size W w' := by
      intro W wb hb hB hvW
      have h := has_span 100 #[.pointer (some ⟨wb, 0, none⟩)] (enters_of Tryz.func100 (by kernel_rfl) rfl) v rs W hvW hl (fun i => decide ((rs.getD i (0, 0)).1 ≤ q ∧ q ≤ (rs.getD i (0, 0)).2)) (fun W' i hi hB' => by
        obtain ⟨r1, r2⟩ := hr rs[i] (List.getElem_mem hi)
        have e : rs.getD i (0, 0) = rs[i] := by rw [List.getD_eq_getElem?_getD, List.getElem?_eq_getElem hi]; rfl
        have c := in1_any q rs[i].1 rs[i].2 wb W' hq r1 r2 (hb.on hB') (hP.on (hB.trans (hB'.mono hB.size)))
        simp only [e]
        exact c)
      rw [HA.out] at h
      exact h
    clear t1 t2 e1 e2 hd hin hany hQ hs0 hk0
    generalize inRs rs q = R at *
    generalize digs q = D at *
    generalize digs n = N at *
    have HV := Lib.hid hv
    have HCL := Lib.hid hcl
    obtain ⟨va, vcap, rfl, _⟩ := hv
    clear hq hr hl hcl
    have hB0 := (Below.refl w.heap.size w).alloc (Nat.le_refl _) (.cells #[.bool false, .string N, .int .i64 k] 23)
    go_enter Tryz.func69, Tryz.ntmps69
    go_wp2_with fail
    refine (htr _).mono ?_
    rintro e w1 ⟨rfl, hB1⟩
    have hBw := hB0.trans (hB1.mono hB0.size)
    have hBN := hBw.alloc hBw.size (.cells #[.bool false, .string D, .int .i64 0] 23)
    have hD := Blk.new w1 #[.bool false, .string D, .int .i64 0] 23
    have hc := HCL.out _ _ hD hBN (HV.out.on (hBN))
    clear hB0 hB1 htr hBw hD HCL HV
    go_wp2_with fail
    refine hc.mono ?_
    rintro e w2 ⟨rfl, hB2⟩
    go_wp2_with fail
    go_ret
    exact ⟨rfl, hBN.trans (hB2.mono hBN.size)⟩
  · have hlt := t2 hd
    have hin : inD rs (n, k) = false := by unfold inD; simp [hd]
    rw [hin]
    have hpos : (0 : Int) < (k : Int) - trimK k (digs n) := by omega
    clear t1 t2 hd hin hlt hv hr hl
    generalize (k : Int) - trimK k (digs n) = z at *
    generalize trimF k (digs n) = D at *
    generalize digs n = N at *
    have hB0 := (Below.refl w.heap.size w).alloc (Nat.le_refl _) (.cells #[.bool false, .string N, .int .i64 k] 23)
    go_enter Tryz.func69, Tryz.ntmps69
    go_wp2_with fail
    refine (htr _).mono ?_
    rintro e w1 ⟨rfl, hB1⟩
    have hBw := hB0.trans (hB1.mono hB0.size)
    have hBN := hBw.alloc hBw.size (.cells #[.bool false, .string D, .int .i64 z] 23)
    clear hB0 hB1 htr hBw
    go_wp2_with fail
    go_ret
    exact ⟨rfl, hBN⟩
end Go.Proofs.YtgbemhehbhlgpaaGreatDoor
