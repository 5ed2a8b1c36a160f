/-
  The walk of slices.Repeat over one byte: a row of noughts.
-/
import Derived.Test.YtgccppilhbannaaDoorBts
import Derived.Test.YtgccppilhbannaaDoorWhole
import Derived.Lib.SliceRun
import Derived.Deep.DeepAppendRoom
import Derived.Laws.CopyOwn
namespace Go.Proofs.YtgccppilhbannaaDoor
open Go.RowKit Go.PlainAid

theorem bt_get (s : ByteArray) (k : Nat) (h : k < s.size) : ((s.data.toList[k]'(by rw [size_list]; exact h)).toNat : Int) = bt s k := by
  rw [← get_bt s k h]
  rfl
theorem ByteRow.bts {base : Nat} {w : World} {v : Value} {l : List UInt8} (h : ByteRow base w v l) (hl : l ≠ []) : Bts w v ⟨l.toArray⟩ := by
  have hsz : (⟨l.toArray⟩ : ByteArray).size = l.length := by simp [ByteArray.size]
  rcases h.read with ⟨e, _⟩ | ⟨g, cap, hv, _, hg, hc, hm, hcell⟩
  · exact absurd e hl
  · refine ⟨g, 0, cap, by rw [hv, hsz], hg, by rw [hsz]; exact hc, hm, fun j hj => ?_⟩
    have h2 := bt_get ⟨l.toArray⟩ j hj
    rw [Nat.zero_add, (hcell j (by rw [← hsz]; exact hj)).1, ← h2]
theorem wpList_spread_byte {ops : Array Oper} {rest : List Oper} {o : Oper} {a : Act} {Q : Exit → Act → World → Prop} {W0 w : World} {B : Nat} (hgd : o.guard = none) (s x : Operand)
    (ho : o.op = .call { callee := .builtin .append, args := #[s, x], argTypes := #[76, 76] })
    (base : Nat) (v : Value) (l : List UInt8) (t : ByteArray) (g of c : Nat) (hs : a.eval s = v) (hrow : ByteRow base w v l) (hx : a.eval x = .slice (some ⟨g, of, none⟩) t.size c)
    (hcell : ∀ j, j < t.size → w.cell? ⟨g, of + j, none⟩ = some (.int .u8 (bt t j))) (hlen : l.length + t.size ≤ 1000000000000)
    (hB : Below B W0 w) (hb : B ≤ base) (hz : base ≤ w.heap.size)
    (h : ∀ v' w', ByteRow base w' v' (l ++ t.data.toList) → Below B W0 w' → wpList Tryd.prog ops Q rest (a.put o.dst v') w') : wpList Tryd.prog ops Q (o :: rest) a w := by
  obtain ⟨i0, hi, hz0, hz1, hz2⟩ := info_parts infoByte
  have htl := size_list t
  refine wpList_append_own _ hgd s x 76 ho base 5 i0 (.int .u8 0) 1 1 Tryd.underlying76 hi hz0 hz1 hz2 rfl (by decide) v l.length _ hs hrow ⟨g, of, none⟩ t.size c (t.data.toList.map fun b => Value.int .u8 (b.toNat : Int)) hx (by rw [List.length_map, htl, Nat.mul_one]) (fun j u hu => ?_) (fun u hu => ?_) (by unfold maxLen; omega) (by omega) (by omega) ?_
  · rw [List.getElem?_map] at hu
    by_cases hj : j < t.size
    · rw [List.getElem?_eq_getElem (by rw [htl]; exact hj)] at hu
      have hu := Option.some.inj hu
      have h2 := bt_get t j hj
      rw [Lib.add_plain, hcell j hj, ← hu]
      show some (Value.int _ (bt t j)) = some (Value.int _ ((t.data.toList[j]'(by rw [htl]; exact hj)).toNat : Int))
      rw [h2]
    · rw [List.getElem?_eq_none (by rw [htl]; omega)] at hu
      cases hu
  · obtain ⟨b, _, rfl⟩ := List.mem_map.1 hu
    simp [Value.oneCell']
  · intro v' w' hown' hgrow _
    refine h v' w' ?_ (hB.grown hgrow (by omega) (fun k hk => Nat.le_trans hb (hrow.own k hk)))
    unfold ByteRow
    rw [List.length_append, htl, List.map_append]
    exact hown'
theorem ByteRow.empty (w : World) : ByteRow w.heap.size (w.alloc (.cells #[] 5)) (.slice (some ⟨w.heap.size, 0, none⟩) 0 0) [] := by
  refine ⟨rfl, .inr ⟨w.heap.size, 0, #[], rfl, Nat.le_refl _, ?_, Nat.le_refl _, by unfold maxLen; omega, rfl, rfl⟩⟩
  show (w.heap.push _)[w.heap.size]? = _
  simp

set_option maxRecDepth 100000 in
set_option maxHeartbeats 1000000 in
theorem clone_any (v : Value) (s : ByteArray) (w : World) (hv : Bts w v s) (hl : s.size ≤ 1000000) :
    Calls Tryd.prog 93 #[v] w fun e w' => ∃ v', e = .returned v' ∧ ByteRow w.heap.size w' v' s.data.toList ∧ Below w.heap.size w w' := by
  obtain ⟨g, o, cap, rfl, hg, hc, hm, hcell⟩ := hv
  have hB0 := (Below.refl w.heap.size w).alloc (Nat.le_refl _) (.cells #[] 5)
  have hcell2 : ∀ j, j < s.size → (w.alloc (.cells #[] 5)).cell? ⟨g, o + j, none⟩ = some (.int .u8 (bt s j)) := fun j hj => (hB0.cell (p := ⟨g, o + j, none⟩) hg).trans (hcell j hj)
  have hE := ByteRow.empty w
  have HC := Lib.hid hcell2
  have q1 : ∀ (W : World) (a : Option Addr) (n c n' c' : Nat), (binOp .eql 76 (.slice a n c) (.slice none n' c')).run Tryd.prog W = .ok (.bool a.isNone) W := fun W a n c n' c' => Lib.run_eql_slice_nil W _ _ a n c n' c' Tryd.underlying76
  clear hcell hcell2
  go_enter Tryd.func93, Tryd.ntmps93
  go_wp2_with (at_builtin; go_must (refine wpList_spread_byte rfl _ _ rfl w.heap.size _ [] s g o cap rfl hE rfl HC.out (by simp; omega) hB0 (Nat.le_refl _) (by simp) ?_); intro v' w5 hrow5 hB5)
  go_ret
  exact ⟨_, rfl, by simpa using hrow5, hB5⟩
end Go.Proofs.YtgccppilhbannaaDoor
namespace Go.Proofs.YtgccppilhbannaaDoor
open Go.RowKit Go.PlainAid

theorem wpList_spare_byte {ops : Array Oper} {rest : List Oper} {o : Oper} {a : Act} {Q : Exit → Act → World → Prop} {w : World} {y : Int} (hgd : o.guard = none) (s x : Operand)
    (ho : o.op = .call { callee := .builtin .append, args := #[s, x], argTypes := #[76, 76] })
    (base g n cap : Nat) (l : List UInt8) (d : UInt8) (hn : l.length = n) (hs : a.eval s = .slice (some ⟨g, 0, none⟩) n cap) (hrow : ByteRow base w (.slice (some ⟨g, 0, none⟩) n cap) l) (hx : a.eval x = .slice (some ⟨w.heap.size, 0, none⟩) 1 1) (hy : y = (d.toNat : Int)) (hroom : n + 1 ≤ cap)
    (h : ∀ w', ByteRow base w' (.slice (some ⟨g, 0, none⟩) (n + 1) cap) (l ++ [d]) → (w.alloc (.cells #[.int .u8 y] 5)).grownBy w' (some g) → wpList Tryd.prog ops Q rest (a.put o.dst (.slice (some ⟨g, 0, none⟩) (n + 1) cap)) w') : wpList Tryd.prog ops Q (o :: rest) a (w.alloc (.cells #[.int .u8 y] 5)) := by
  obtain ⟨i0, hi, hz0, hz1, hz2⟩ := info_parts infoByte
  subst hn
  refine wpList_append_own_spare _ hgd s x 76 ho base 5 i0 1 Tryd.underlying76 hi hz1 g l.length cap _ hs (World.ownsRow.alloc hrow _) ⟨w.heap.size, 0, none⟩ 1 1 [.int .u8 y] hx rfl (cell_one_new _ _ _) (by simp [Value.oneCell']) hroom ?_
  intro w' hown' hgrow
  refine h w' ?_ hgrow
  have h2 := ByteRow.snoc hy hown'
  exact h2

theorem ByteRow.open {base n : Nat} {w : World} {v : Value} {l : List UInt8} (h : ByteRow base w v l) (hl : l.length = n) (hn : 0 < n) : ∃ g cap, v = .slice (some ⟨g, 0, none⟩) n cap ∧ base ≤ g ∧ g < w.heap.size ∧ n ≤ cap ∧ cap ≤ maxLen ∧ ∀ j, j < n → w.cell? ⟨g, j, none⟩ = some (.int .u8 (bt ⟨l.toArray⟩ j)) := by
  subst hl
  have hsz : (⟨l.toArray⟩ : ByteArray).size = l.length := by simp [ByteArray.size]
  rcases h.read with ⟨e, _⟩ | ⟨g, cap, e, hb, hg, hc, hm, hcell⟩
  · rw [e] at hn; simp at hn
  · refine ⟨g, cap, e, hb, hg, hc, hm, fun j hj => ?_⟩
    have h2 := bt_get ⟨l.toArray⟩ j (by rw [hsz]; exact hj)
    rw [(hcell j hj).1, ← h2]
/-- A row of digits, the highest first, as a number. -/
def hvL (l : List Nat) : Nat := rowval l.reverse
theorem hvL_snoc (l : List Nat) (d : Nat) : hvL (l ++ [d]) = hvL l * 10 + d := by
  unfold hvL
  rw [List.reverse_append]
  simp only [List.reverse_singleton, List.singleton_append, rowval]
  omega

set_option maxRecDepth 100000 in
set_option maxHeartbeats 2000000 in
theorem halved_any (v : Value) (s : ByteArray) (w : World) (hv : Bts w v s) (hd : AllDig s) (hl : s.size ≤ 100000) :
    Calls Tryd.prog 71 #[v] w fun e w' => ∃ v' t, e = .returned v' ∧ Bts w' v' t ∧ AllDig t ∧ t.size = s.size + 1 ∧ dval t = 5 * dval s ∧ Below w.heap.size w w' := by
  obtain ⟨i0, hi, hz0, hz1, hz2⟩ := info_parts infoByte
  obtain ⟨w1, hmk, hown, hgrow⟩ := run_make_own (P := Tryd.prog) w w.heap.size 76 5 i0 (.int .u8 0) 1 Tryd.underlying76 hi hz0 hz1 .i64 .i64 (s.size + 1) (by rw [hz2]; omega) (by unfold maxLen; omega) (Nat.le_refl _)
  have hB1 : Below w.heap.size w w1 := (Below.refl _ _).grown hgrow (Nat.le_refl _) (fun k hk => by cases hk)
  have hv1 := hv.later hB1 (Nat.le_refl _)
  have hlt1 : w.heap.size < w1.heap.size := by
    rcases hown.2 with ⟨h, _⟩ | ⟨g, cap, cur, h, _, h2, _⟩
    · cases h
    · have h3 := (Array.getElem?_eq_some_iff.1 h2).1
      cases h
      exact h3
  have hcl := fun W (h : Bts W v s) => clone_any v s W h (by omega)
  have hcast : ((s.size + 1 : Nat) : Int) = (s.size : Int) + 1 := by push_cast; rfl
  rw [hcast] at hmk
  have e1 : IntKind.i64.wrap ((s.size : Int) + 1) = (s.size : Int) + 1 := IntWalk.i64_in _ (by omega)
  have hrow0 : ByteRow w.heap.size w1 (.slice (some ⟨w.heap.size, 0, none⟩) 0 (s.size + 1)) (encL []) := hown
  have HROW0 := Lib.hid hrow0; have HV1 := Lib.hid hv1
  obtain ⟨g0, o0, c0, hvf, hvg, hvc, hvm, hvcell⟩ := hv
  have HVF := Lib.hid hvf
  subst hvf
  clear hown hgrow hrow0 hv1 hcast hz0 hz1 hz2 hi hvcell
  go_enter Tryd.func71, Tryd.ntmps71
  go_wp2_with fail
  refine (hcl _ HV1.out).mono ?_
  rintro e w2 ⟨v2, rfl, hr2, hB2⟩
  have hB2w := hB1.trans (hB2.mono hB1.size)
  have hz2 := hB2.size
  have hrow2 := HROW0.out.later hB2
  have H48 := Lib.hid (show (48 : Int) = ((48 : UInt8).toNat : Int) from rfl)
  have hlen2 : s.data.toList.length ≤ 1000000000000 := by rw [size_list]; omega
  have hln : (s.data.toList ++ [48]).length = s.size + 1 := by rw [List.length_append, size_list]; rfl
  clear hcl hmk
  go_wp2_with (at_builtin; go_must (refine wpList_snoc_byte rfl _ _ rfl w1.heap.size _ s.data.toList 48 rfl hr2 rfl H48.out hlen2 (Below.refl w1.heap.size w2) (by omega) (Nat.le_refl _) (by omega) ?_); intro v3 w3 hrow3 hB3; obtain ⟨gR, cR, rfl, hRg, hRl, hRc, hRm, hRcell⟩ := hrow3.open hln (Nat.succ_pos _))
  have hTe : (⟨(s.data.toList ++ [48]).toArray⟩ : ByteArray) = s ++ ⟨#[48]⟩ := by
    apply ext_list
    rw [app_list]
  have hTd : AllDig (s ++ ⟨#[48]⟩) := allDig_app hd (fun j hj => by
    have : j = 0 := by have : (⟨#[48]⟩ : ByteArray).size = 1 := rfl; omega
    subst this
    decide)
  have hTs : (s ++ (⟨#[48]⟩ : ByteArray)).size = s.size + 1 := by rw [ByteArray.size_append]; rfl
  have hTv : dval (s ++ ⟨#[48]⟩) = dval s * 10 := by
    rw [dval_app]
    have e1 : dval ⟨#[48]⟩ = 0 := by decide +kernel
    have e2 : (⟨#[48]⟩ : ByteArray).size = 1 := rfl
    rw [e1, e2, Nat.pow_one, Nat.add_zero]
  rw [hTe] at hRcell
  obtain ⟨B0, hB0⟩ : ∃ B0, w.heap.size = B0 := ⟨_, rfl⟩
  have hR0 : B0 ≠ gR := by omega
  have hB3w : Below B0 w w3 := by rw [← hB0]; exact hB2w.trans (hB3.mono (by omega))
  have hrow3' : ByteRow B0 w3 (.slice (some ⟨B0, 0, none⟩) 0 (s.size + 1)) (encL []) := by
    rw [← hB0]
    obtain ⟨a1, a2⟩ := hrow2
    refine ⟨a1, ?_⟩
    rcases a2 with a2 | ⟨g, cap, cur, e, hg, hh, r⟩
    · exact .inl a2
    · have hgw : g = w.heap.size := by cases e; rfl
      exact .inr ⟨g, cap, cur, e, hg, (hB3.block g (by omega)).trans hh, r⟩
  generalize s ++ (⟨#[48]⟩ : ByteArray) = X at *
  obtain ⟨n, hn⟩ : ∃ n, s.size + 1 = n := ⟨_, rfl⟩
  have hni : (s.size : Int) + 1 = n := by omega
  rw [hn] at hRc hRcell hrow3' hTs
  rw [hB0, hn]
  have HXC := Lib.hid hRcell; have HTD := Lib.hid hTd; have HTV := Lib.hid hTv; have HTS := Lib.hid hTs; have HB3 := Lib.hid hB3w; have HR3 := Lib.hid hrow3'; have HB0 := Lib.hid hB0; have HNI := Lib.hid hni; have HN := Lib.hid hn
  clear hRcell hTd hTv hTs hB3w hrow3' hTe hrow2 hrow3 hr2 hB2 hB2w hB3 hd HROW0 HV1 H48 hB1 hni hln
  have hn8 : n ≤ 100001 := by omega
  have hn0 : 1 ≤ n := by omega
  have hBg : B0 < gR := by omega
  clear hn hB0 e1 HVF
  go_loopg [3, 4, 17] n (fun g s3 s4 s17 wr => ∃ (i : Nat) (O : List Nat) (r : Nat), i + g = n ∧ s17 = .int .i64 (i : Int) ∧ s4 = .int .u8 (r : Int) ∧ r ≤ 1 ∧ O.length = i ∧ (∀ d ∈ O, d < 10) ∧ s3 = .slice (some ⟨B0, 0, none⟩) i n ∧ ByteRow B0 wr (.slice (some ⟨B0, 0, none⟩) i n) (encL O) ∧ hvL ((dl X).take i) = 2 * hvL O + r ∧ (∀ j, j < n → wr.cell? ⟨gR, j, none⟩ = some (.int .u8 (bt X j))) ∧ gR < wr.heap.size ∧ Below B0 w wr)
  case atStart => exact ⟨0, [], 0, by omega, rfl, rfl, by omega, rfl, by simp, rfl, HR3.out, by simp [hvL, rowval], HXC.out, hRl, HB3.out⟩
  case round =>
    obtain ⟨i, O, r, hi, rfl, rfl, hr1, hOl, hO9, rfl, hrow, hval, hcell, hgl, hB⟩ := hrel
    have HCELL := Lib.hid hcell; have HVAL := Lib.hid hval; have HO9 := Lib.hid hO9; have HI := Lib.hid hi; have HOL := Lib.hid hOl
    have hz := hB.size
    cases gk with
    | zero =>
      have hin : ¬ i < n := by omega
      have hin2 : ¬ (i : Int) < (s.size : Int) + 1 := by have := HNI.out; omega
      have hie : i = n := by omega
      rw [hie] at hrow
      have hO0 : encL O ≠ [] := fun e => by
        have h1 := congrArg List.length e
        rw [List.length_map, hOl] at h1
        simp at h1
        omega
      have hBts := hrow.bts hO0
      have hdv : hvL O = 5 * dval s := by
        rw [hie, List.take_of_length_le (by rw [dl_length, HTS.out]; exact Nat.le_refl _)] at hval
        have h1 : hvL (dl X) = dval X := rfl
        rw [h1, HTV.out] at hval
        omega
      have HBTS := Lib.hid hBts; have HDV := Lib.hid hdv; have HIE := Lib.hid hie
      have HROW := Lib.hid hrow
      clear hcell hval hO9 hi hOl hie hrow hBts hdv hO0
      go_wp2_with fail
      go_ret
      exact ⟨_, rfl, textL O, by rw [HIE.out]; exact HBTS.out, textL_dig HO9.out, by rw [textL_size, HOL.out, HIE.out, HN.out], by rw [dval_textL _ HO9.out]; exact HDV.out, by rw [HB0.out]; exact hB⟩
    | succ g =>
      have hin : i < n := by omega
      have hin2 : (i : Int) < (s.size : Int) + 1 := by have := HNI.out; omega
      have hc := hcell i hin
      have hdg := HTD.out i (by rw [HTS.out]; exact hin)
      have hdl := dl_get X i (by rw [HTS.out]; exact hin)
      obtain ⟨x, hx⟩ : ∃ x, (dl X)[i]'(by rw [dl_length, HTS.out]; exact hin) = x := ⟨_, rfl⟩
      rw [hx] at hdl
      have hbx : bt X i = 48 + (x : Int) := by omega
      rw [hbx] at hc
      have hx9 : x ≤ 9 := by omega
      have htk : (dl X).take (i + 1) = (dl X).take i ++ [x] := by rw [List.take_succ_eq_append_getElem (by rw [dl_length, HTS.out]; exact hin), hx]
      obtain ⟨q, hq⟩ : ∃ q, (r * 10 + x) / 2 = q := ⟨_, rfl⟩
      obtain ⟨r', hr'⟩ : ∃ r', (r * 10 + x) % 2 = r' := ⟨_, rfl⟩
      have hq9 : q ≤ 9 := by omega
      have hval2 : hvL ((dl X).take (i + 1)) = 2 * hvL (O ++ [q]) + r' := by
        rw [htk, hvL_snoc, hvL_snoc, hval]
        omega
      have HVAL2 := Lib.hid hval2
      have i1 : IntKind.u8.wrap ((r : Int) * 10) = (r : Int) * 10 := IntWalk.u8_in _ (by omega)
      have i2 : IntKind.u8.wrap ((r : Int) * 10 + (48 + (x : Int))) = (r : Int) * 10 + (48 + (x : Int)) := IntWalk.u8_in _ (by omega)
      obtain ⟨N, hN⟩ : ∃ N, r * 10 + x = N := ⟨_, rfl⟩
      rw [hN] at hq hr'
      have i3 : IntKind.u8.wrap ((r : Int) * 10 + (48 + (x : Int)) - 48) = (N : Int) := by rw [show (r : Int) * 10 + (48 + (x : Int)) - 48 = N by omega]; exact IntWalk.u8_in _ (by omega)
      have i4 : (N : Int) / 2 = q := by omega
      have i5 : (N : Int) % 2 = r' := by omega
      have i6 : IntKind.u8.wrap (q : Int) = q := IntWalk.u8_in _ (by omega)
      have i7 : IntKind.u8.wrap (48 + (q : Int)) = 48 + (q : Int) := IntWalk.u8_in _ (by omega)
      have i8 : IntKind.u8.wrap (r' : Int) = r' := IntWalk.u8_in _ (by omega)
      have i9 : IntKind.i64.wrap ((i : Int) + 1) = (i : Int) + 1 := IntWalk.i64_in _ (by omega)
      have hy : (48 + (q : Int)) = ((UInt8.ofNat (48 + q)).toNat : Int) := by rw [UInt8.toNat_ofNat']; omega
      have HY := Lib.hid hy
      have hel : (encL O).length = i := by rw [List.length_map]; exact hOl
      have HEL := Lib.hid hel
      have hr1' : r' ≤ 1 := by omega
      clear hcell hval hO9 hi hOl hdg hdl hx hbx htk hq hr' hval2 hN hy hel
      go_wp2_with (at_builtin; go_must (refine wpList_spare_byte rfl _ _ rfl B0 B0 i n (encL O) (UInt8.ofNat (48 + q)) HEL.out rfl hrow rfl HY.out (by omega) ?_); intro w5 hrow5 hgrow5)
      have hB5 : Below B0 w w5 := (hB.alloc (by have := HB0.out; omega) (.cells #[.int .u8 (48 + (q : Int))] 5)).grown hgrow5 (by simp; have := HB0.out; omega) (fun k hk => by cases hk; exact Nat.le_refl _)
      have hcell5 : ∀ j, j < n → w5.cell? ⟨gR, j, none⟩ = some (.int .u8 (bt X j)) := fun j hj => by
        rw [← HCELL.out j hj]
        have h1 : w5.heap[gR]? = wr.heap[gR]? := by
          rw [hgrow5.block gR (by simp; omega) (by intro e; cases e; omega)]
          exact Below.heap_alloc _ _ _ hgl
        unfold World.cell?
        simp only [h1]
      have hg5 : gR < w5.heap.size := Nat.lt_of_lt_of_le hgl (by have := hgrow5.size; simp at this; omega)
      have HR5 := Lib.hid hrow5; have HC5 := Lib.hid hcell5
      clear hrow5 hcell5 hgrow5 hc hrow
      go_roundg g
      case rel => exact ⟨i + 1, O ++ [q], r', by have := HI.out; omega, by push_cast; rfl, congrArg (Value.int .u8) i5, hr1', by rw [List.length_append, HOL.out]; rfl, fun d hd => by rcases List.mem_append.1 hd with h | h; { exact HO9.out d h }; rw [List.mem_singleton.1 h]; omega, rfl, by rw [show encL (O ++ [q]) = encL O ++ [UInt8.ofNat (48 + q)] from List.map_append]; exact HR5.out, HVAL2.out, HC5.out, hg5, hB5⟩
      case measure => omega
end Go.Proofs.YtgccppilhbannaaDoor
namespace Go.Proofs.YtgccppilhbannaaDoor
open Go.RowKit Go.PlainAid

theorem splice_rep (a b : Value) (n m c : Nat) (h : n + m ≤ c) : splice (List.replicate n a ++ List.replicate (c - n) b) n (List.replicate m a) = List.replicate (n + m) a ++ List.replicate (c - (n + m)) b := by
  unfold splice
  rw [List.take_append_of_le_length (by simp), List.take_of_length_le (by simp), List.length_replicate, List.drop_append, List.drop_eq_nil_of_le (by simp), List.nil_append, List.length_replicate, List.drop_replicate, ← List.append_assoc, List.replicate_append_replicate]
  congr 2
  omega

theorem wpList_copy_rep {ops : Array Oper} {rest : List Oper} {o : Oper} {a : Act} {Q : Exit → Act → World → Prop} {W0 w : World} (hgd : o.guard = none) (d s : Operand)
    (ho : o.op = .call { callee := .builtin .copy, args := #[d, s], argTypes := #[76, 76] })
    (g n m c dLen dCap sLen sCap : Nat) (p : Addr) (x y : Value) (hd : a.eval d = .slice (some ⟨g, n, none⟩) dLen dCap) (hs : a.eval s = .slice (some p) sLen sCap)
    (hrow : w.heap[g]? = some (.cells (List.replicate n x ++ List.replicate (c - n) y).toArray 5 (0, 0))) (hm : Nat.min sLen dLen = m) (hn : n + m ≤ c)
    (hx : x.oneCell' = true) (hsrc : ∀ j, j < m → w.cell? (p.add j) = some x) (hB : Below g W0 w)
    (h : ∀ w', w'.heap[g]? = some (.cells (List.replicate (n + m) x ++ List.replicate (c - (n + m)) y).toArray 5 (0, 0)) → Below g W0 w' → wpList Tryd.prog ops Q rest (a.put o.dst (.int .i64 m)) w') : wpList Tryd.prog ops Q (o :: rest) a w := by
  obtain ⟨i0, hi, hz0, hz1, hz2⟩ := info_parts infoByte
  have hsz : (Tryd.prog.info? 5).map (·.size) = some 1 := by rw [hi]; exact congrArg some hz1
  refine wpList_copy_splice hgd d s 76 76 ho 5 Tryd.underlying76 hsz _ _ _ _ _ _ hd hs g n _ 5 hrow (List.replicate m x) (by rw [List.length_replicate]; exact hm.symm) (fun _ => ⟨rfl, p, rfl, fun j v hj => ?_⟩) (by simp; omega) (fun v hv => by rw [List.eq_of_mem_replicate hv]; exact hx) g W0 hB (Nat.le_refl _) ?_
  · obtain ⟨hj1, rfl⟩ := List.getElem?_eq_some_iff.1 hj
    rw [List.length_replicate] at hj1
    rw [List.getElem_replicate]
    exact hsrc j hj1
  · intro w' hw' hB'
    have h1 : (w'.heap[g]? = some (.cells (splice _ n (List.replicate m x)).toArray 5 (0, 0))) := hw'
    rw [splice_rep _ _ n m c hn] at h1
    rw [List.length_replicate]
    exact h w' h1 hB'

theorem step_copy_rep {ops : Array Oper} {o : Oper} {a : Act} {K : Act → World → Prop} {Q : Exit → Act → World → Prop} {E : Prop} {W0 w : World} (hgd : o.guard = none) (d s : Operand)
    (ho : o.op = .call { callee := .builtin .copy, args := #[d, s], argTypes := #[76, 76] })
    (g n m c dLen dCap sLen sCap : Nat) (p : Addr) (x y : Value) (hd : a.eval d = .slice (some ⟨g, n, none⟩) dLen dCap) (hs : a.eval s = .slice (some p) sLen sCap)
    (hrow : w.heap[g]? = some (.cells (List.replicate n x ++ List.replicate (c - n) y).toArray 5 (0, 0))) (hm : Nat.min sLen dLen = m) (hn : n + m ≤ c)
    (hx : x.oneCell' = true) (hsrc : ∀ j, j < m → w.cell? (p.add j) = some x) (hB : Below g W0 w)
    (h : ∀ w', w'.heap[g]? = some (.cells (List.replicate (n + m) x ++ List.replicate (c - (n + m)) y).toArray 5 (0, 0)) → Below g W0 w' → K (a.put o.dst (.int .i64 m)) w') : if Region.wanted o (yielded ops a.tmps) = true then Oper.wp Tryd.prog o a w K Q else E := by
  have hw : Region.wanted o (yielded ops a.tmps) = true := by simp [Region.wanted, hgd]
  rw [if_pos hw]
  obtain ⟨i0, hi, hz0, hz1, hz2⟩ := info_parts infoByte
  have hsz : (Tryd.prog.info? 5).map (·.size) = some 1 := by rw [hi]; exact congrArg some hz1
  have hrun := run_copy_row (P := Tryd.prog) w 76 76 o.type 5 g n dLen dCap p sLen sCap _ 5 (List.replicate m x) Tryd.underlying76 hsz hrow (by rw [List.length_replicate]; exact hm.symm) (fun j v hj => by
    obtain ⟨hj1, rfl⟩ := List.getElem?_eq_some_iff.1 hj
    rw [List.length_replicate] at hj1
    rw [List.getElem_replicate]
    exact hsrc j hj1) (by simp; omega) (fun v hv => by rw [List.eq_of_mem_replicate hv]; exact hx)
  obtain ⟨w', hw', h2⟩ : ∃ w', w' = w.setRow g (splice (List.replicate n x ++ List.replicate (c - n) y) n (List.replicate m x)).toArray ∧ K (a.put o.dst (.int .i64 m)) w' := ⟨_, rfl, h _ (by rw [splice_rep _ _ n m c hn]; exact setRow_heap _ _ _ _ _ _ hrow) (below_setRow hB (Nat.le_refl _) _)⟩
  have e1 : (List.replicate n x ++ List.replicate (c - n) y).toArray.toList.take n ++ List.replicate m x ++ (List.replicate n x ++ List.replicate (c - n) y).toArray.toList.drop (n + (List.replicate m x).length) = splice (List.replicate n x ++ List.replicate (c - n) y) n (List.replicate m x) := List.append_assoc _ _ _
  rw [e1, ← hw', List.length_replicate] at hrun
  clear hw' e1
  unfold Oper.wp
  simp [execOp, ho, resolve, invoke, builtin, hd, hs, hrun, Result.andThen]
  exact h2

set_option maxRecDepth 100000 in
set_option maxHeartbeats 1000000 in
theorem slrep_any (g0 : Nat) (c : Nat) (w : World) (h0 : w.cell? ⟨g0, 0, none⟩ = some (.int .u8 48)) (hg0 : g0 < w.heap.size) (hc : c ≤ 1000000) :
    Calls Tryd.prog 72 #[.slice (some ⟨g0, 0, none⟩) 1 1, .int .i64 c] w fun e w' => ∃ v', e = .returned v' ∧ ByteRow w.heap.size w' v' (List.replicate c 48) ∧ Below w.heap.size w w' := by
  obtain ⟨i0, hi, hz0, hz1, hz2⟩ := info_parts infoByte
  have hmul := fun W => Tryd.bits_Mul 1 c (by omega) (by omega) W
  rw [show 1 * c / 18446744073709551616 = 0 by omega, show 1 * c % 18446744073709551616 = c by omega] at hmul
  have hmk : ∀ W : World, (Instr.makeSlice 76 (.int .i64 (c : Int)) (.int .i64 (c : Int))).run Tryd.prog W = .ok (.slice (some ⟨W.heap.size, 0, none⟩) c c) (W.alloc (.cells (madeCells #[.int .u8 0] c) 5)) := fun W => run_make_row' (P := Tryd.prog) 76 5 (.int .u8 0) 1 Tryd.underlying76 infoByte rfl .i64 .i64 c (by omega) (by omega) W
  have hsz : (Tryd.prog.info? 5).map (·.size) = some 1 := by rw [hi]; exact congrArg some hz1
  have HSZ := Lib.hid hsz
  have q1 : ¬ (c : Int) < 0 := by omega
  have q2 : IntKind.u64.wrap (c : Int) = c := IntWalk.u64_in _ (by omega)
  have q3 : IntKind.i64.wrap (c : Int) = c := IntWalk.i64_in _ (by omega)
  have q4 : ¬ (9223372036854775807 : Int) < c := by omega
  clear hsz hz0 hz1 hz2 hi
  go_enter Tryd.func72, Tryd.ntmps72
  go_wp2_with fail
  refine (hmul _).mono ?_
  rintro e w1 ⟨rfl, rfl⟩
  have hg1 : (w1.alloc (.cells (madeCells #[.int .u8 0] c) 5)).heap[w1.heap.size]? = some (.cells (List.replicate c (.int .u8 0)).toArray 5 (0, 0)) := by
    have e1 : (madeCells #[Value.int .u8 0] c) = (List.replicate c (Value.int .u8 0)).toArray := by
      apply Array.ext'
      rw [toList_madeCells_one]
    rw [e1]
    show (w1.heap.push _)[w1.heap.size]? = _
    simp
  have hB1 : Below w1.heap.size w1 (w1.alloc (.cells (madeCells #[.int .u8 0] c) 5)) := (Below.refl _ _).alloc (Nat.le_refl _) _
  have h01 : (w1.alloc (.cells (madeCells #[.int .u8 0] c) 5)).cell? ⟨g0, 0, none⟩ = some (.int .u8 48) := (hB1.cell (p := ⟨g0, 0, none⟩) hg0).trans h0
  obtain ⟨m1, hm1⟩ : ∃ m1, Nat.min 1 c = m1 := ⟨_, rfl⟩
  have hm1c : m1 ≤ c ∧ m1 ≤ 1 ∧ (c = 0 ∨ 1 ≤ m1) := by rw [← hm1]; simp only [Nat.min_def]; split <;> omega
  have HM1 := Lib.hid hm1
  have hx48 : (Value.int .u8 48).oneCell' = true := rfl
  have hg1' : (w1.alloc (.cells (madeCells #[.int .u8 0] c) 5)).heap[w1.heap.size]? = some (.cells (List.replicate 0 (Value.int .u8 48) ++ List.replicate (c - 0) (Value.int .u8 0)).toArray 5 (0, 0)) := by simpa using hg1
  have hs1 : ∀ j, j < m1 → (w1.alloc (.cells (madeCells #[.int .u8 0] c) 5)).cell? ((⟨g0, 0, none⟩ : Addr).add j) = some (.int .u8 48) := fun j hj => by rw [show j = 0 by omega]; exact h01
  have HG1 := Lib.hid hg1'; have HS1 := Lib.hid hs1; have HB1 := Lib.hid hB1; have HX := Lib.hid hx48
  clear hmul hg1 h01 hm1 hB1 h0 q2 hg1' hs1 hx48
  go_wp2_with (with_reducible (show wpList Tryd.prog _ _ (⟨_, .call ⟨.builtin .copy, _, _⟩, _, _, _, _⟩ :: _) _ _); go_must (refine wpList_copy_rep rfl _ _ rfl w1.heap.size 0 m1 c _ _ _ _ _ _ _ rfl rfl HG1.out HM1.out (by omega) HX.out HS1.out HB1.out ?_); intro W2 hW2 hB2; rw [Nat.zero_add] at hW2; have HW2 := Lib.hid hW2; clear hW2)
  clear hmk HG1 HS1 HB1 HM1
  have hz2 := hB2.size
  go_loopg [8] c (fun g s8 wr => ∃ n : Nat, n ≤ c ∧ c ≤ n + g ∧ (c = 0 ∨ 1 ≤ n) ∧ s8 = .int .i64 (n : Int) ∧ wr.heap[w1.heap.size]? = some (.cells (List.replicate n (Value.int .u8 48) ++ List.replicate (c - n) (Value.int .u8 0)).toArray 5 (0, 0)) ∧ Below w1.heap.size w1 wr)
  case atStart => exact ⟨m1, by omega, by omega, hm1c.2.2, rfl, HW2.out, hB2⟩
  case round =>
    obtain ⟨n, hn, hng, hn1, rfl, hrow, hB⟩ := hrel
    have hz := hB.size
    by_cases hnc : n < c
    · obtain ⟨q, rfl⟩ : ∃ q, gk = q + 1 := ⟨gk - 1, by omega⟩
      have h1n : 1 ≤ n := by omega
      obtain ⟨m, hm⟩ : ∃ m, Nat.min n (c - n) = m := ⟨_, rfl⟩
      have hmm : n + m ≤ c ∧ 1 ≤ m := by rw [← hm]; simp only [Nat.min_def]; split <;> omega
      have hsrc : ∀ j, j < m → wr.cell? ((⟨w1.heap.size, 0, none⟩ : Addr).add j) = some (.int .u8 48) := fun j hj => by
        have hjn : j < n := by have h1 : m ≤ n := by rw [← hm]; exact Nat.min_le_left _ _
                               omega
        rw [Lib.add_plain, Nat.zero_add]
        show wr.cell? ⟨w1.heap.size, j, none⟩ = _
        simp only [World.cell?, hrow]
        simp only [List.getElem?_toArray]
        rw [List.getElem?_append_left (by simp; exact hjn), List.getElem?_replicate, if_pos hjn]
        rfl
      have hrow' : wr.drew.heap[w1.heap.size]? = some (.cells (List.replicate n (Value.int .u8 48) ++ List.replicate (c - n) (Value.int .u8 0)).toArray 5 (0, 0)) := hrow
      have hsrc' : ∀ j, j < m → wr.drew.cell? ((⟨w1.heap.size, 0, none⟩ : Addr).add j) = some (.int .u8 48) := hsrc
      have HM := Lib.hid hm; have HROW := Lib.hid hrow'; have HSRC := Lib.hid hsrc'; have HB := Lib.hid hB.drew
      have j1 : IntKind.i64.wrap ((n : Int) + (m : Int)) = (n : Int) + (m : Int) := IntWalk.i64_in _ (by omega)
      have hcn : ¬ c = n := by omega
      have HCN := Lib.hid hcn
      clear hrow' hsrc' hcn
      clear hm hrow hsrc hB2
      go_wp2_with fail
      go_region_law (refine step_copy_rep rfl (.tmp 41) (.tmp 44) rfl w1.heap.size n m c (c - n) (c - n) n c ⟨w1.heap.size, 0, none⟩ (.int .u8 48) (.int .u8 0) (by simp [Act.eval, Act.put, HCN.out]) (by simp [Act.eval, Act.put]) HROW.out HM.out hmm.1 HX.out HSRC.out HB.out ?_; intro W3 hW3 hB3; have HW3 := Lib.hid hW3; clear hW3)
      go_wp2_with fail
      go_roundg q
      case rel => exact ⟨n + m, hmm.1, by omega, by omega, by push_cast; rfl, HW3.out, hB3⟩
      case measure => omega
    · have hnc' : n = c := by omega
      have HN := Lib.hid hnc'
      have HROW := Lib.hid hrow
      clear hnc' hrow
      go_wp2_with fail
      go_ret
      refine ⟨_, rfl, ?_, hB⟩
      have h1 := HROW.out
      rw [HN.out, Nat.sub_self, List.replicate_zero, List.append_nil] at h1
      refine ⟨by simp, .inr ⟨w1.heap.size, c, (List.replicate c (Value.int .u8 48)).toArray, by simp, Nat.le_refl _, h1, by simp, by unfold maxLen; omega, by simp, by simp⟩⟩
end Go.Proofs.YtgccppilhbannaaDoor
