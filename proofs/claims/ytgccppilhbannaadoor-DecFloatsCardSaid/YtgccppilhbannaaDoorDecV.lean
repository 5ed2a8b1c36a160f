/-
  The walk of the reference's Print.
-/
import Derived.Test.YtgccppilhbannaaDoorDecU
import Derived.Test.YtgccppilhbannaaDoorDecW
namespace Go.Proofs.YtgccppilhbannaaDoor
open Go.RowKit Go.PlainAid

theorem IntRow.form {base : Nat} {w : World} {v : Value} {l : List Nat} (h : IntRow base w v l) (n : Nat) (hn : l.length = n) : ∃ a cap, v = .slice a n cap := by
  subst hn
  rcases h.read with ⟨rfl, rfl⟩ | ⟨g, cap, rfl, _⟩
  · exact ⟨_, _, rfl⟩
  · exact ⟨_, _, rfl⟩
theorem ByteRow.form {base : Nat} {w : World} {v : Value} {l : List UInt8} (h : ByteRow base w v l) (n : Nat) (hn : l.length = n) : ∃ a cap, v = .slice a n cap := by
  subst hn
  rcases h.read with ⟨rfl, rfl⟩ | ⟨g, cap, rfl, _⟩
  · exact ⟨_, _, rfl⟩
  · exact ⟨_, _, rfl⟩

theorem bcell' {B : Nat} {W w1 : World} (hb : Below B W w1) : (∀ b o, b < B → w1.cell? ⟨b, o, none⟩ = W.cell? ⟨b, o, none⟩) ∧ (∀ b o, b < B → w1.frozen? ⟨b, o, none⟩ = W.frozen? ⟨b, o, none⟩) :=
  ⟨fun b o h => hb.cell (p := ⟨b, o, none⟩) h, fun b o h => hb.frozen (p := ⟨b, o, none⟩) h⟩
/-- The text of a decimal when so many digits have been written. -/
def progP (H : List UInt8) (k m : Nat) : List UInt8 := if 0 < k ∧ H.length - k ≤ m then H.take (H.length - k) ++ 46 :: (H.take m).drop (H.length - k) else H.take m
theorem progP_zero {H : List UInt8} {k : Nat} (h : k < H.length) : progP H k 0 = [] := by
  unfold progP
  rw [if_neg (by omega)]
  rfl
theorem progP_dig {H : List UInt8} {k m : Nat} (hm : m < H.length) (h : ¬ (0 < k ∧ H.length - k = m + 1)) : progP H k (m + 1) = progP H k m ++ [H[m]] := by
  have e := List.take_succ_eq_append_getElem hm
  unfold progP
  by_cases c : 0 < k ∧ H.length - k ≤ m
  · rw [if_pos (by omega), if_pos c, e, List.drop_append_of_le_length (by simp; omega)]
    simp
  · rw [if_neg (by omega), if_neg c, e]
theorem progP_point {H : List UInt8} {k m : Nat} (hm : m < H.length) (h0 : 0 < k) (h : H.length - k = m + 1) : progP H k (m + 1) = progP H k m ++ [H[m]] ++ [46] := by
  have e := List.take_succ_eq_append_getElem hm
  unfold progP
  rw [if_pos (by omega), if_neg (by omega), h, List.drop_of_length_le (by simp; omega), e]
theorem progP_end {ds : ByteArray} {k : Nat} (h : 0 < ds.size) : progP (padL ds.data.toList k) k (padL ds.data.toList k).length = pointL ds.data.toList k := by
  have hl := padL_length ds.data.toList k
  rw [size_list] at hl
  unfold progP pointL
  by_cases hk : 0 < k
  · rw [if_pos ⟨hk, by omega⟩, if_pos hk, List.take_length]
  · rw [if_neg (by omega), if_neg hk, List.take_length]
    unfold padL
    rw [size_list, show k + 1 - ds.size = 0 by omega]
    rfl
/-- The row of the digits, the lowest first. -/
def rowH (ds : ByteArray) (k : Nat) : List Nat := ((padL ds.data.toList k).map fun b => b.toNat - 48).reverse
theorem rowH_eq (ds : ByteArray) (k : Nat) : rowH ds k = (dl ds).reverse ++ List.replicate (k + 1 - ds.size) 0 := by
  unfold rowH padL dl
  rw [size_list]
  simp
theorem rowH_len (ds : ByteArray) (k : Nat) : (rowH ds k).length = (padL ds.data.toList k).length := by simp [rowH]
theorem rowH_lt {ds : ByteArray} (h : AllDig ds) (k : Nat) : ∀ d ∈ rowH ds k, d < 10 := fun d hd => by
  rw [rowH_eq] at hd
  rcases List.mem_append.1 hd with h1 | h1
  · exact dl_lt h _ (by simpa using h1)
  · rw [(List.mem_replicate.1 h1).2]; decide
theorem progP_len {H : List UInt8} {k m : Nat} (hm : m ≤ H.length) : (progP H k m).length ≤ m + 1 := by
  unfold progP
  split
  · simp; omega
  · simp; omega
theorem rowH_get {ds : ByteArray} (h : AllDig ds) (k q N : Nat) (hN : (padL ds.data.toList k).length = N) (hq : q < (rowH ds k).length) (hm : N - (q + 1) < (padL ds.data.toList k).length) : (48 : Int) + ((rowH ds k)[q] : Int) = ((padL ds.data.toList k)[N - (q + 1)].toNat : Int) := by
  subst hN
  have hb : ∀ b ∈ padL ds.data.toList k, 48 ≤ b.toNat := fun b hb => by
    rcases List.mem_append.1 hb with h1 | h1
    · rw [(List.mem_replicate.1 h1).2]; decide
    · exact (allDig_mem.1 h b h1).1
  have h2 := hb _ (List.getElem_mem hm)
  have e : (rowH ds k)[q] = (padL ds.data.toList k)[(padL ds.data.toList k).length - (q + 1)].toNat - 48 := by
    simp only [rowH, List.getElem_reverse, List.length_map, List.getElem_map, Nat.sub_sub, Nat.add_comm 1 q]
  rw [e]
  omega

set_option maxRecDepth 100000 in
set_option maxHeartbeats 2000000 in
theorem rPrint_any (neg : Bool) (ds : ByteArray) (k : Nat) (w : World) (hd : AllDig ds) (h0 : 0 < ds.size) (h1 : ds.size ≤ 100000) (h2 : k ≤ 100000) :
    Calls Tryd.prog 18 #[.agg #[.bool neg, .string ds, .int .i64 k]] w fun e w' => e = .returned (.string (printT neg ds k)) ∧ Below w.heap.size w w' := by
  have hB0 := (Below.refl w.heap.size w).alloc (Nat.le_refl _) (.cells #[.bool neg, .string ds, .int .i64 k] 23)
  have hrow := fun W => rRow_any neg ds k k W hd h1 (by omega) (by omega)
  rw [show ((k : Int) - k).toNat = 0 by omega] at hrow
  change ∀ W, Calls _ _ _ _ (fun e w' => ∃ v, e = .returned v ∧ IntRow W.heap.size w' v ((dl ds).reverse) ∧ Below W.heap.size W w') at hrow
  go_enter Tryd.func18, Tryd.ntmps18
  go_wp2_with fail
  refine (hrow _).mono ?_
  rintro e w1 ⟨v, rfl, hr1, hB1⟩
  obtain ⟨hc, hf⟩ := bcell hB1
  have hz1 : w.heap.size < w1.heap.size := by have := hB1.size; simp at this; omega
  have hBw := hB0.trans (hB1.mono (by simp))
  have hr1 := hr1.base (base' := w.heap.size + 1) (by simp)
  clear hrow hB1 hB0
  go_wp2_with fail
  have HD := Lib.hid hd; clear hd
  go_loopw [3] (fun v wr => ∃ m : Nat, m ≤ k + 1 - ds.size ∧ IntRow (w.heap.size + 1) wr v ((dl ds).reverse ++ List.replicate m 0) ∧ Below (w.heap.size + 1) w1 wr) (fun v _ => k + 1 - (match v with | .slice _ n _ => n | _ => 0))
  case atStart => exact ⟨0, Nat.zero_le _, by simpa using hr1, Below.refl _ _⟩
  case round =>
    obtain ⟨m, hm, hrow, hB⟩ := hrel
    have hlen : ((dl ds).reverse ++ List.replicate m 0).length = ds.size + m := by simp [dl_length]
    obtain ⟨a, cap, rfl⟩ := hrow.form _ hlen
    obtain ⟨hc2, hf2⟩ := bcell' hB
    have hsz := hB.size
    by_cases hgo : ds.size + m ≤ k
    · go_wp2_with (at_builtin; go_must (refine wpList_snoc_int rfl _ _ rfl (w.heap.size + 1) _ _ 0 rfl hrow rfl rfl (by rw [hlen]; omega) hB (by omega) (Nat.le_refl _) (by omega) ?_); intro v' w2 hrow2 hB2)
      have hrow3 : IntRow (w.heap.size + 1) w2 v' ((dl ds).reverse ++ List.replicate (m + 1) 0) := by rw [List.replicate_succ', ← List.append_assoc]; exact hrow2
      obtain ⟨a', cap', rfl⟩ := hrow3.form (ds.size + m + 1) (by simp [dl_length]; omega)
      go_roundw
      case rel => exact ⟨m + 1, by omega, hrow3, hB2⟩
      case measure => simp; omega
    · have hme : m = k + 1 - ds.size := by omega
      subst hme
      have hz2 : w.heap.size < wr.heap.size := by omega
      rw [← rowH_eq] at hrow hlen
      rcases hrow.read with ⟨e, _⟩ | ⟨g, cap', hv, _, hg, _, _, hcell⟩
      · rw [e] at hlen; simp at hlen; omega
      obtain ⟨rfl, _, rfl⟩ : a = some ⟨g, 0, none⟩ ∧ ds.size + (k + 1 - ds.size) = (rowH ds k).length ∧ cap = cap' := by
        simpa using hv
      clear hv
      have HC := Lib.hid hcell; clear hcell
      have hN : ds.size + (k + 1 - ds.size) = (padL ds.data.toList k).length := by rw [← hlen, rowH_len]
      obtain ⟨N, hNe⟩ : ∃ N, (padL ds.data.toList k).length = N := ⟨_, rfl⟩
      rw [hNe] at hN
      rw [hN]
      have hNk : k < N := by omega
      have hNb : N ≤ 200001 := by omega
      have HN := Lib.hid hNe
      have HL := Lib.hid hlen
      clear hNe hN hlen hrow
      have hBw2 := hBw.trans (hB.mono (by omega))
      go_upto_if 19 with fail
      go_cut [4] (fun s4 wx => ByteRow wr.heap.size wx s4 (if neg = true then [45] else []) ∧ Below wr.heap.size wr wx)
      case first =>
        cases neg
        · go_wp2_with fail
          go_meet
          case rel => exact ⟨ByteRow.nil _ _, Below.refl _ _⟩
        · go_wp2_with (at_builtin; go_must (refine wpList_snoc_byte rfl _ _ rfl wr.heap.size _ _ 45 rfl (ByteRow.nil _ _) rfl rfl (by simp) (Below.refl _ _) (Nat.le_refl _) (Nat.le_refl _) (Nat.le_refl _) ?_); intro v' w2 hrow2 hB2)
          go_meet
          case rel => exact ⟨hrow2, hB2⟩
      case rest =>
        obtain ⟨hrowB, hB2⟩ := hcut
        have HT := Lib.hid (show (⟨((if neg = true then [45] else []) ++ progP (padL ds.data.toList k) k N).toArray⟩ : ByteArray) = printT neg ds k by rw [← HN.out, progP_end h0]; rfl)
        have hP0 : ByteRow wr.heap.size wc u4 ((if neg = true then [45] else []) ++ progP (padL ds.data.toList k) k (N - N)) := by
          rw [Nat.sub_self, progP_zero (by rw [HN.out]; exact hNk), List.append_nil]
          exact hrowB
        have hS : (if neg = true then [45] else ([] : List UInt8)).length ≤ 1 := by cases neg <;> decide
        generalize (if neg = true then [45] else ([] : List UInt8)) = S0 at *
        clear hrowB
        go_wp2_with fail
        go_loopw [4, 5] (fun v i wx => ∃ p : Nat, p ≤ N ∧ i = .int .i64 ((p : Int) - 1) ∧ ByteRow wr.heap.size wx v (S0 ++ progP (padL ds.data.toList k) k (N - p)) ∧ Below wr.heap.size wr wx) (fun _ i _ => (intOf i + 1).toNat)
        case atStart => exact ⟨N, Nat.le_refl _, rfl, hP0, hB2⟩
        case round =>
          obtain ⟨p, hp, rfl, hrow, hB⟩ := hrel
          have hsz2 := hB.size
          cases p with
          | zero =>
            have htx := hrow.text
            rw [Nat.sub_zero, HT.out] at htx
            go_wp2
            go_ret
            exact ⟨rfl, hBw2.trans (hB.mono (by omega))⟩
          | succ q =>
            rw [show ((q + 1 : Nat) : Int) - 1 = (q : Int) by omega]
            have hm : N - (q + 1) < (padL ds.data.toList k).length := by rw [HN.out]; omega
            have hqr : q < (rowH ds k).length := by rw [rowH_len, HN.out]; omega
            have hx := rowH_get HD.out k q N HN.out hqr hm
            have hcl := (HC.out q hqr).1
            have hd9 : (rowH ds k)[q] < 10 := rowH_lt HD.out k _ (List.getElem_mem _)
            have hlen : (S0 ++ progP (padL ds.data.toList k) k (N - (q + 1))).length ≤ 1000000 := by
              have := progP_len (H := padL ds.data.toList k) (k := k) (m := N - (q + 1)) (by omega)
              rw [List.length_append]
              omega
            obtain ⟨hc3, hf3⟩ := bcell' hB
            generalize (rowH ds k)[q] = d at *
            have HX := Lib.hid hx; clear hx
            have hst := progP_dig (H := padL ds.data.toList k) (k := k) hm
            have hpt := progP_point (H := padL ds.data.toList k) (k := k) hm
            rw [HN.out, show N - (q + 1) + 1 = N - q by omega] at hpt
            rw [HN.out, show N - (q + 1) + 1 = N - q by omega] at hst
            generalize (padL ds.data.toList k)[N - (q + 1)] = b at *
            have HS := Lib.hid hst
            have HPT := Lib.hid hpt
            clear hst hpt
            by_cases hqk : q = k ∧ 0 < k
            · obtain ⟨rfl, hk0⟩ := hqk
              go_wp2_with (first | (at_builtin; refine wpList_snoc_byte rfl _ _ rfl _ _ _ b rfl hrow rfl HX.out (by omega) hB (Nat.le_refl _) (Nat.le_refl _) (by omega) ?_; intro v' w2 hrow2 hB3; have hsz3 := hB3.size; obtain ⟨hc4, hf4⟩ := bcell' hB3) | (at_builtin; go_must (refine wpList_snoc_byte rfl _ _ rfl _ _ _ 46 rfl hrow2 rfl rfl (by simp; simp at hlen; omega) hB3 (Nat.le_refl _) (Nat.le_refl _) (by omega) ?_); intro v'' w3 hrow3 hB4))
              go_roundw
              case rel => exact ⟨q, by omega, rfl, by rw [HPT.out hk0 (by omega), ← List.append_assoc, ← List.append_assoc]; exact hrow3, hB4⟩
              case measure => first | (simp [intOf]; done) | (simp [intOf]; omega)
            · have hn : ¬ (0 < k ∧ N - k = N - q) := by omega
              by_cases hk : q = k
              · have hk0 : k = 0 := by omega
                subst hk0
                subst hk
                go_wp2_with (at_builtin; go_must (refine wpList_snoc_byte rfl _ _ rfl _ _ _ b rfl hrow rfl HX.out (by omega) hB (Nat.le_refl _) (Nat.le_refl _) (by omega) ?_); intro v' w2 hrow2 hB3; have hsz3 := hB3.size; obtain ⟨hc4, hf4⟩ := bcell' hB3)
                go_roundw
                case rel =>
                  exact ⟨0, by omega, rfl, by rw [HS.out hn, ← List.append_assoc]; exact hrow2⟩
                case measure => simp [intOf]
              · have hqk2 : ((q : Int) == (k : Int)) = false := by rw [beq_eq_false_iff_ne]; omega
                go_wp2_with (at_builtin; go_must (refine wpList_snoc_byte rfl _ _ rfl _ _ _ b rfl hrow rfl HX.out (by omega) hB (Nat.le_refl _) (Nat.le_refl _) (by omega) ?_); intro v' w2 hrow2 hB3; have hsz3 := hB3.size; obtain ⟨hc4, hf4⟩ := bcell' hB3)
                go_roundw
                case rel => exact ⟨q, by omega, rfl, by rw [HS.out hn, ← List.append_assoc]; exact hrow2, hB3⟩
                case measure => first | (simp [intOf]; done) | (simp [intOf]; omega)
end Go.Proofs.YtgccppilhbannaaDoor
