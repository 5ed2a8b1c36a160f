/-
  The walk of the reference's whole: the digits of a number above nought.
-/
import Derived.Test.YtgccppilhbannaaDoorDecW
import Derived.Test.YtgccppilhbannaaDoorTot
import Derived.Deep.LoopGhost
namespace Go.Proofs.YtgccppilhbannaaDoor
open Go.RowKit Go.PlainAid

theorem lowD_len {n m : Nat} (hn : n < 10 ^ m) (hm : 1 ≤ m) : (lowD n).length ≤ m := by
  have hc := lowD_canon n
  have hv := rowval_lowD n
  apply Classical.byContradiction
  intro e
  have h1 := getD_le (lowD n) ((lowD n).length - 1)
  rw [hv] at h1
  have h2 := hc.2.2 (by omega)
  rw [List.getLast?_eq_getElem?] at h2
  have h3 : (lowD n).getD ((lowD n).length - 1) 0 ≠ 0 := fun g => by
    apply h2
    rw [List.getD_eq_getElem?_getD, List.getElem?_eq_getElem (by omega)] at g
    rw [List.getElem?_eq_getElem (by omega)]
    exact congrArg some g
  have h4 : 10 ^ m ≤ 10 ^ ((lowD n).length - 1) := Nat.pow_le_pow_right (by decide) (by omega)
  have h5 : 10 ^ ((lowD n).length - 1) * 1 ≤ 10 ^ ((lowD n).length - 1) * (lowD n).getD ((lowD n).length - 1) 0 := Nat.mul_le_mul_left _ (by omega)
  omega
/-- The digits of what is left of a number, ahead of those that stand. -/
def fullL (g : Nat) (l : List Nat) : List Nat := if g = 0 then l else (lowD g).reverse ++ l
theorem fullL_step {g : Nat} (l : List Nat) (h : g ≠ 0) : fullL (g / 10) (g % 10 :: l) = fullL g l := by
  unfold fullL
  rw [if_neg h]
  by_cases hg : g < 10
  · rw [if_pos (by omega), lowD_small g hg, Nat.mod_eq_of_lt hg]
    rfl
  · rw [if_neg (by omega), lowD_step g (by omega)]
    simp
abbrev encL (l : List Nat) : List UInt8 := l.map fun d => UInt8.ofNat (48 + d)
theorem ByteRow.lit (w : World) (d : Nat) (hd : d < 10) : ByteRow w.heap.size (w.alloc (.cells #[.int .u8 (48 + (d : Int))] 5)) (.slice (some ⟨w.heap.size, 0, none⟩) 1 1) (encL [d]) := by
  have e : ((UInt8.ofNat (48 + d)).toNat : Int) = 48 + (d : Int) := by
    rw [UInt8.toNat_ofNat']
    omega
  refine ⟨rfl, .inr ⟨w.heap.size, 1, #[.int .u8 (48 + (d : Int))], rfl, Nat.le_refl _, ?_, Nat.le_refl _, by unfold maxLen; omega, rfl, ?_⟩⟩
  · show (w.heap.push _)[w.heap.size]? = _
    simp
  · simp; omega

set_option maxRecDepth 100000 in
set_option maxHeartbeats 2000000 in
theorem rWhole_any (N : Nat) (hN : 1 ≤ N) (hN2 : N ≤ 9223372036854775807) (w : World) :
    Calls Tryd.prog 67 #[.int .i64 N] w fun e w' => e = .returned (.string (digs N)) ∧ Below w.heap.size w w' := by
  have hln : (lowD N).length ≤ 20 := lowD_len (by omega) (by decide)
  have HLN := Lib.hid hln
  have hF : fullL N [] = (lowD N).reverse := by unfold fullL; rw [if_neg (by omega), List.append_nil]
  have HF := Lib.hid hF
  have HN := Lib.hid hN
  clear hln hF hN
  go_enter Tryd.func67, Tryd.ntmps67
  go_wp2_with fail
  go_loopg [0, 3] N (fun g s0 s3 wr => ∃ l : List Nat, s0 = .int .i64 (g : Int) ∧ g ≤ N ∧ (∀ d ∈ l, d < 10) ∧ ByteRow w.heap.size wr s3 (encL l) ∧ fullL g l = (lowD N).reverse ∧ Below w.heap.size w wr)
  case atStart => exact ⟨[], rfl, Nat.le_refl _, by simp, ByteRow.nil _ _, HF.out, Below.refl _ _⟩
  case round =>
    obtain ⟨l, rfl, hgN, hl9, hrow, hfl, hB⟩ := hrel
    have hll : l.length ≤ 20 := by
      have h1 := congrArg List.length hfl
      rw [List.length_reverse] at h1
      have h2 := HLN.out
      unfold fullL at h1
      split at h1
      · omega
      · rw [List.length_append] at h1; omega
    have HFL := Lib.hid hfl; have HL9 := Lib.hid hl9
    clear hfl hl9
    by_cases hg : gk = 0
    · subst hg
      have htx := hrow.text
      have hres : (⟨(encL l).toArray⟩ : ByteArray) = digs N := by
        have h1 := HFL.out
        unfold fullL at h1
        rw [if_pos rfl] at h1
        rw [h1]
        rfl
      have HR := Lib.hid hres
      clear hres
      go_wp2_with fail
      go_ret
      exact ⟨ret_val (by rw [← HR.out]; rfl), hB⟩
    · obtain ⟨d, hd⟩ : ∃ d, gk % 10 = d := ⟨_, rfl⟩
      obtain ⟨q, hq⟩ : ∃ q, gk / 10 = q := ⟨_, rfl⟩
      have hst := fullL_step l hg
      rw [hd, hq] at hst
      have HST := Lib.hid hst
      have hg0 : 0 < gk := by omega
      have d9 : d < 10 := by omega
      have hqg : q < gk := by omega
      have i1 : (gk : Int) % 10 = d := by omega
      have i2 : IntKind.i64.wrap (48 + (d : Int)) = 48 + (d : Int) := IntWalk.i64_in _ (by omega)
      have i3 : IntKind.u8.wrap (48 + (d : Int)) = 48 + (d : Int) := IntWalk.u8_in _ (by omega)
      have i4 : (gk : Int) / 10 = q := by omega
      have i5 : IntKind.i64.wrap (q : Int) = q := IntWalk.i64_in _ (by omega)
      have i6 : IntKind.i64.wrap (d : Int) = d := IntWalk.i64_in _ (by omega)
      have hlit := ByteRow.lit wr d d9
      have hz := hB.size
      obtain ⟨oa, oc, hform, hcell⟩ : ∃ a cap, u3 = .slice a l.length cap ∧ (∀ j (hj : j < l.length), ∃ g, a = some ⟨g, 0, none⟩ ∧ g < wr.heap.size ∧ l.length ≤ cap ∧ wr.cell? ⟨g, j, none⟩ = some (.int .u8 (48 + (l[j] : Int)))) := by
        have hsz : (encL l).length = l.length := List.length_map _
        rcases hrow.read with ⟨e, e2⟩ | ⟨g, cap, e, _, hg, hc, hm, hcell⟩
        · have hl0 : l = [] := by
            have := congrArg List.length e
            rw [hsz] at this
            exact List.eq_nil_of_length_eq_zero this
          exact ⟨none, 0, by rw [e2, hl0]; rfl, fun j hj => by rw [hl0] at hj; exact absurd hj (by simp)⟩
        · refine ⟨some ⟨g, 0, none⟩, cap, by rw [e, hsz], fun j hj => ⟨g, rfl, hg, by omega, ?_⟩⟩
          rw [(hcell j (by omega)).1]
          have e3 : ((encL l)[j]'(by omega)).toNat = 48 + l[j] := by
            rw [List.getElem_map, UInt8.toNat_ofNat']
            have := HL9.out l[j] (List.getElem_mem _)
            omega
          rw [e3]
          push_cast
          rfl
      subst hform
      have HCELL := Lib.hid hcell
      clear hst hd hq hcell hrow
      go_wp2_with fail
      have hB1 : Below wr.heap.size wr (wr.alloc (.cells #[.int .u8 (48 + (d : Int))] 5)) := (Below.refl _ _).alloc (Nat.le_refl _) _
      generalize wr.alloc (.cells #[.int .u8 (48 + (d : Int))] 5) = w4 at *
      clear i1 i2 i3 i6
      go_loopg [4, 5] l.length (fun q' s4 s5 wq => ∃ i : Nat, i + q' = l.length ∧ s5 = .int .i64 (i : Int) ∧ ByteRow wr.heap.size wq s4 (encL (d :: l.take i)) ∧ Below wr.heap.size wr wq)
      case atStart => exact ⟨0, by omega, rfl, hlit, hB1⟩
      case round =>
        obtain ⟨i, hi, rfl, hrow, hB4⟩ := hrel
        have hz4 := hB4.size
        have HI := Lib.hid hi
        cases gk with
        | zero =>
          have hil : ¬ i < l.length := by omega
          have hie : i = l.length := by omega
          rw [hie, List.take_of_length_le (Nat.le_refl _)] at hrow
          have HROW := Lib.hid (hrow.base hz)
          clear hi hie hrow
          go_wp2_with fail
          go_roundg q
          case rel => exact ⟨d :: l, rfl, by omega, fun x hx => by rcases List.mem_cons.1 hx with h | h; { rw [h]; exact d9 }; exact HL9.out x h, HROW.out, by rw [HST.out]; exact HFL.out, hB.trans (hB4.mono hz)⟩
          case measure => exact hqg
        | succ r =>
          have hil : i < l.length := by omega
          obtain ⟨g, hga, hgl, hcap, hc⟩ := HCELL.out i hil
          subst hga
          have hc := (hB4.cell (p := ⟨g, i, none⟩) hgl).trans hc
          obtain ⟨x, hx⟩ : ∃ x, l[i] = x := ⟨_, rfl⟩
          rw [hx] at hc
          have hx9 : x < 10 := by rw [← hx]; exact HL9.out _ (List.getElem_mem _)
          have htk : encL (d :: l.take (i + 1)) = encL (d :: l.take i) ++ [UInt8.ofNat (48 + x)] := by
            rw [List.take_succ_eq_append_getElem hil, hx]
            simp
          have HTK := Lib.hid htk
          have hb : (48 + (x : Int)) = ((UInt8.ofNat (48 + x)).toNat : Int) := by rw [UInt8.toNat_ofNat']; omega
          have HB := Lib.hid hb
          have hlen : (encL (d :: l.take i)).length ≤ 1000000000000 := by simp; omega
          have j1 : IntKind.i64.wrap ((i : Int) + 1) = (i : Int) + 1 := IntWalk.i64_in _ (by omega)
          clear hx htk hb hi
          go_wp2_with (at_builtin; go_must (refine wpList_snoc_byte rfl _ _ rfl _ _ _ (UInt8.ofNat (48 + x)) rfl hrow rfl HB.out hlen hB4 (Nat.le_refl _) (Nat.le_refl _) (by omega) ?_); intro v' w5 hrow5 hB5)
          go_roundg r
          case rel => exact ⟨i + 1, by have := HI.out; omega, by push_cast; rfl, by rw [HTK.out]; exact hrow5, hB5⟩
          case measure => omega
end Go.Proofs.YtgccppilhbannaaDoor
