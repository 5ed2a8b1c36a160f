/-
  The walk of DecOperands.
-/
import Derived.Test.YtgccppilhbannaaDoorDecZ
namespace Go.Proofs.YtgccppilhbannaaDoor
open Go.RowKit Go.PlainAid

theorem rRight_is {neg : Bool} {ds : ByteArray} {sc : Int} {b : Bool} (hr : rightB neg ds sc = b) (w : World) :
    Calls Tryd.prog 16 #[.agg #[.bool neg, .string ds, .int .i64 sc]] w fun e w' => e = .returned (.bool b) ∧ Below w.heap.size w w' := by
  have h := rRight_any neg ds sc w
  rw [hr] at h
  exact h

set_option maxRecDepth 100000 in
set_option maxHeartbeats 2000000 in
theorem operands_law_no (neg : Bool) (ds : ByteArray) (sc : Int) (w : World) (hr : rightB neg ds sc = false) :
    Calls Tryd.prog 4 #[.agg #[.bool neg, .string ds, .int .i64 sc]] w fun e w' => e = .returned (.bool true) ∧ Below w.heap.size w w' := by
  have hop := fun W => operands_no neg ds sc W hr
  have hrr := fun W => rRight_is hr W
  clear hr
  go_enter Tryd.func4, Tryd.ntmps4
  go_wp2_with fail
  refine (wakes_any _).mono ?_
  rintro e w1 ⟨rfl, hB1⟩
  have ka := (Blk.new w _ _).on hB1
  have hBw1 := ((Below.refl w.heap.size w).alloc (Nat.le_refl _) _).trans (hB1.mono (by simp))
  clear hB1
  have ca := ka.cell
  go_wp2_with fail
  refine (hop _).mono ?_
  rintro e w2 ⟨rfl, hB2⟩
  have ka := ka.on hB2
  have hBw2 := hBw1.trans (hB2.mono hBw1.size)
  clear hB2 hop ca hBw1
  have ca := ka.cell
  have la := ka.lt
  go_wp2_with fail
  refine (hrr _).mono ?_
  rintro e w3 ⟨rfl, hB3⟩
  have kb := (Blk.new w2 _ _).on hB3
  have hBw3 := (hBw2.alloc hBw2.size _).trans (hB3.mono (by have := hBw2.size; simp; omega))
  clear hB3 hrr ca la
  have cb := kb.cell
  go_wp2
  go_ret
  exact ⟨rfl, hBw3⟩

set_option maxRecDepth 100000 in
set_option maxHeartbeats 2000000 in
theorem operands_law_yes (neg : Bool) (ds : ByteArray) (k : Nat) (w : World) (hr : rightB neg ds k = true) :
    Calls Tryd.prog 4 #[.agg #[.bool neg, .string ds, .int .i64 k]] w fun e w' => e = .returned (.bool true) ∧ Below w.heap.size w w' := by
  have hop := fun W => operands_yes neg ds k W hr
  have hrr := fun W => rRight_is hr W
  obtain ⟨h1, h2, h3, h4, _, hd⟩ := of_decide_eq_true hr
  have hrow := fun W => rRow_any neg ds k k W hd (by omega) (by omega) (by omega)
  rw [show ((k : Int) - k).toNat = 0 by omega] at hrow
  change ∀ W, Calls _ _ _ _ (fun e w' => ∃ v, e = .returned v ∧ IntRow W.heap.size w' v ((dl ds).reverse) ∧ Below W.heap.size W w') at hrow
  have hmI : ∀ (W : World) (v : Value), Ints W v ((rowH ds k).drop k) → Calls Tryd.prog 21 #[.bool false, v, .int .i64 0] W fun e w' => e = .returned (decE (opI ds k)) ∧ Below W.heap.size W w' := fun W v hv => by
    have h := rMade_ints false v _ 0 W (fun d hdd => rowH_lt hd k d (List.mem_of_mem_drop hdd)) (by rw [List.length_drop, rowH_len, padL_length, size_list]; omega) hv
    rw [rowval_highB hd] at h
    exact h
  have hmF : ∀ (W : World) (v : Value), Ints W v (lowB ds k) → Calls Tryd.prog 21 #[.bool false, v, .int .i64 0] W fun e w' => e = .returned (decE (opF ds k)) ∧ Below W.heap.size W w' := fun W v hv => by
    have h := rMade_ints false v _ 0 W (lowB_lt hd k) (by rw [lowB_length]; omega) hv
    rw [rowval_lowB hd] at h
    exact h
  have hmT : ∀ (W : World) (v : Value), Ints W v ((lowB ds k).drop (lz (lowB ds k))) → Calls Tryd.prog 21 #[.bool false, v, .int .i64 0] W fun e w' => e = .returned (decE (opT ds k)) ∧ Below W.heap.size W w' := fun W v hv =>
    rMade_ints false v _ 0 W (fun d hdd => lowB_lt hd k d (List.mem_of_mem_drop hdd)) (by rw [List.length_drop, lowB_length]; omega) hv
  have hlz : lz (lowB ds k) ≤ k := by have := lz_le (lowB ds k); rw [lowB_length] at this; exact this
  have hW : opW ds k = k - lz (lowB ds k) := rfl
  have HD := Lib.hid hd
  clear hr hd
  have HF := Lib.hid hmF
  have HT := Lib.hid hmT
  have HI := Lib.hid hmI
  clear hmF hmT hmI
  go_enter Tryd.func4, Tryd.ntmps4
  go_wp2_with fail
  refine (wakes_any _).mono ?_
  rintro e w1 ⟨rfl, hB1⟩
  have ka := (Blk.new w _ _).on hB1
  have hBw1 := ((Below.refl w.heap.size w).alloc (Nat.le_refl _) _).trans (hB1.mono (by simp))
  clear hB1
  have ca := ka.cell
  go_wp2_with fail
  refine (hop _).mono ?_
  rintro e w2 ⟨rfl, hB2⟩
  have ka := ka.on hB2
  have hBw2 := hBw1.trans (hB2.mono hBw1.size)
  clear hB2 hop ca hBw1
  have ca := ka.cell
  have la := ka.lt
  go_wp2_with fail
  refine (hrr _).mono ?_
  rintro e w3 ⟨rfl, hB3⟩
  have ka := (ka.alloc _).on hB3
  have kb := (Blk.new w2 _ _).on hB3
  have hBw3 := (hBw2.alloc hBw2.size _).trans (hB3.mono (by have := hBw2.size; simp; omega))
  clear hB3 hrr ca la hBw2
  have ca := ka.cell
  have la3 := ka.lt
  have lb3 := kb.lt
  go_wp2_with fail
  refine (hrow _).mono ?_
  rintro e w4 ⟨v, rfl, hr1, hB4⟩
  have ka := ka.on hB4
  have kb := kb.on hB4
  have hBw4 := hBw3.trans (hB4.mono hBw3.size)
  have la := ka.lt
  have lb := kb.lt
  have hz4 := hB4.size
  clear hB4 hrow ca
  have ca := ka.cell
  go_wp2_with fail
  go_loopw [5] (fun v wr => ∃ m : Nat, m ≤ k + 1 - ds.size ∧ IntRow w3.heap.size wr v ((dl ds).reverse ++ List.replicate m 0) ∧ Below w3.heap.size w4 wr) (fun v _ => k + 1 - (match v with | .slice _ n _ => n | _ => 0))
  case atStart => exact ⟨0, Nat.zero_le _, by simpa using hr1, Below.refl _ _⟩
  case round =>
    obtain ⟨m, hm, hrow, hB⟩ := hrel
    have hlen : ((dl ds).reverse ++ List.replicate m 0).length = ds.size + m := by simp [dl_length]
    obtain ⟨a, cap, rfl⟩ := hrow.form _ hlen
    have hsz := hB.size
    have kar := ka.later hB la3
    have kbr := kb.later hB lb3
    clear ca
    have ca := kar.cell
    by_cases hgo : ds.size + m ≤ k
    · go_wp2_with (at_builtin; go_must (refine wpList_snoc_int rfl _ _ rfl w3.heap.size _ _ 0 rfl hrow rfl rfl (by rw [hlen]; omega) hB hz4 (Nat.le_refl _) (by omega) ?_); intro v' w5 hrow2 hB2)
      have hrow3 : IntRow w3.heap.size w5 v' ((dl ds).reverse ++ List.replicate (m + 1) 0) := by rw [List.replicate_succ', ← List.append_assoc]; exact hrow2
      obtain ⟨a', cap', rfl⟩ := hrow3.form (ds.size + m + 1) (by simp [dl_length]; omega)
      go_roundw
      case rel => exact ⟨m + 1, by omega, hrow3, hB2⟩
      case measure => simp; omega
    · have hme : m = k + 1 - ds.size := by omega
      subst hme
      rw [← rowH_eq] at hrow hlen
      rcases hrow.ints with ⟨e, _⟩ | ⟨g, o, cap', hv, hg, hcap, hmax, hcell⟩
      · rw [e] at hlen; simp at hlen; omega
      obtain ⟨rfl, _, rfl⟩ : a = some ⟨g, o, none⟩ ∧ ds.size + (k + 1 - ds.size) = (rowH ds k).length ∧ cap = cap' := by simpa using hv
      clear hv
      obtain rfl : o = 0 := by
        rcases hrow.read with ⟨e, _⟩ | ⟨g', cap', hv, _⟩
        · rw [e] at hlen; simp at hlen; omega
        · simp at hv; omega
      have hN : ds.size + (k + 1 - ds.size) = (rowH ds k).length := hlen.symm
      obtain ⟨N, hNe⟩ : ∃ N, (rowH ds k).length = N := ⟨_, rfl⟩
      have hkN : k < N := by omega
      have hNb : N ≤ 100000 := by omega
      rw [hN, hNe] at hrow ⊢
      have hI := hrow.ints
      rw [hNe] at hcap
      have HC := Lib.hid hcell; clear hcell
      clear hN hrow hlen
      have hBwr := hBw4.trans (hB.mono (by have := hBw3.size; omega))
      have hWl : (lowB ds k).length = k := lowB_length ds k
      obtain ⟨W, hWe⟩ : ∃ W, lz (lowB ds k) = W := ⟨_, rfl⟩
      have HW := Lib.hid hWe; have HN := Lib.hid hNe; have HL := Lib.hid hWl
      rw [hWe] at hlz hW
      clear hWe hNe hWl
      go_wp2_with fail
      go_loop [6] (fun s6 => ∃ j : Nat, j ≤ W ∧ s6 = .int .i64 j) (fun s6 => k - (intOf s6).toNat)
      case atStart => exact ⟨0, by omega, rfl⟩
      case round =>
        obtain ⟨j, hj, rfl⟩ := hrel
        by_cases hjW : j < W
        · have hcj : wr.cell? ⟨g, j, none⟩ = some (.int .i64 0) := by
            have h := HC.out j (by rw [HN.out]; omega)
            have h2 : (lowB ds k)[j]'(by rw [HL.out]; omega) = 0 := lz_zero (by rw [HW.out]; exact hjW) _
            have h3 : (lowB ds k)[j]'(by rw [HL.out]; omega) = (rowH ds k)[j]'(by rw [HN.out]; omega) := by simp [lowB]
            rw [← h3, h2, Nat.zero_add] at h
            exact h
          go_wp2
          go_round
          case rel => exact ⟨j + 1, by omega, by go_num⟩
          case measure => simp [intOf]; omega
        · obtain rfl : j = W := by omega
          have hdis : ¬ j < k ∨ (j < k ∧ ∃ d : Nat, wr.cell? ⟨g, j, none⟩ = some (.int .i64 d) ∧ ((d : Int) == 0) = false) := by
            by_cases hjk : j < k
            · have h := HC.out j (by rw [HN.out]; omega)
              have h2 : (lowB ds k)[lz (lowB ds k)]'(by rw [HL.out, HW.out]; omega) ≠ 0 := lz_ne (by rw [HL.out, HW.out]; omega)
              have h3 : (lowB ds k)[j]'(by rw [HL.out]; omega) = (rowH ds k)[j]'(by rw [HN.out]; omega) := by simp [lowB]
              simp only [HW.out, h3] at h2
              rw [Nat.zero_add] at h
              exact .inr ⟨hjk, _, h, by rw [beq_eq_false_iff_ne]; omega⟩
            · exact .inl hjk
          have hIh : Ints wr (Value.slice (some ⟨g, k, none⟩) (N - k) (cap - k)) ((rowH ds k).drop k) := by
            have h := Ints.part (cap' := cap - k) hI (by rw [HN.out]; omega) k N (by rw [HN.out]; omega) (by omega) (by omega) (N - k) rfl
            rw [List.take_of_length_le (by rw [HN.out]; omega), Nat.zero_add] at h
            exact h
          have hIl : Ints wr (Value.slice (some ⟨g, 0, none⟩) k cap) (lowB ds k) := by
            have h := Ints.part (cap' := cap) hI (by rw [HN.out]; omega) 0 k (by rw [HN.out]; omega) (by omega) hmax k (by omega)
            simpa [lowB] using h
          have hIt : Ints wr (Value.slice (some ⟨g, j, none⟩) (k - j) (cap - j)) ((lowB ds k).drop j) := by
            have h := Ints.part (cap' := cap - j) hI (by rw [HN.out]; omega) j k (by rw [HN.out]; omega) (by omega) (by omega) (k - j) rfl
            rw [Nat.zero_add] at h
            exact h
          have hWi : ((opW ds k : Nat) : Int) = (k : Int) - (j : Int) := by omega
          clear hI hW
          rcases hdis with hjk | ⟨hjk, d, hcj, hd0⟩
          all_goals
            go_wp2_with fail
            refine (HI.out _ _ hIh).mono ?_
            rintro e w5 ⟨rfl, hB5⟩
            have kar := kar.on hB5
            have kbr := kbr.on hB5
            have hIl := hIl.later hB5 (Nat.le_refl _)
            have hIt := hIt.later hB5 (Nat.le_refl _)
            have hB5w := hBwr.trans (hB5.mono hBwr.size)
            clear hIh hB5 ca
            have ca := kar.cell
            have la5 := kar.lt
            have lb5 := kbr.lt
            go_wp2_with fail
            refine (HF.out _ _ (hIl.later ((Below.refl _ _).alloc (Nat.le_refl _) _) (Nat.le_refl _))).mono ?_
            rintro e w6 ⟨rfl, hB6⟩
            have kar := (kar.alloc _).on hB6
            have kbr := (kbr.alloc _).on hB6
            have kc := (Blk.new w5 _ _).on hB6
            have hIt := (hIt.later ((Below.refl _ _).alloc (Nat.le_refl _) _) (Nat.le_refl _)).later hB6 (Nat.le_refl _)
            have hB6w := (hB5w.alloc hB5w.size _).trans (hB6.mono (by have := hB5w.size; simp; omega))
            clear hIl hB6 ca
            have ca := kar.cell
            have la6 := kar.lt
            have lb6 := kbr.lt
            have lc6 := kc.lt
            go_wp2_with fail
            refine (HT.out _ _ (by rw [HW.out]; exact hIt.later ((Below.refl _ _).alloc (Nat.le_refl _) _) (Nat.le_refl _))).mono ?_
            rintro e w7 ⟨rfl, hB7⟩
            have kar := (kar.alloc _).on hB7
            have kbr := (kbr.alloc _).on hB7
            have kc := (kc.alloc _).on hB7
            have kd := (Blk.new w6 _ _).on hB7
            have hB7w := (hB6w.alloc hB6w.size _).trans (hB7.mono (by have := hB6w.size; simp; omega))
            clear hIt hB7 ca
            have ca := kar.cell
            have cb := kbr.cell
            have cc := kc.cell
            have cd := kd.cell
            have fa := kar.free
            have la7 := kar.lt
            have lb7 := kbr.lt
            have lc7 := kc.lt
            have ld7 := kd.lt
            go_wp2
            go_ret
            refine ⟨rfl, ?_⟩
            exact ((hB7w.alloc hB7w.size _).alloc (by have := hB7w.size; simp; omega) _)

theorem decOperands_walk (neg : Bool) (ds : ByteArray) (sc : Int) (w : World) :
    Calls Tryd.prog 4 #[.agg #[.bool neg, .string ds, .int .i64 sc]] w fun e w' => e = .returned (.bool true) ∧ Below w.heap.size w w' := by
  cases hr : rightB neg ds sc with
  | false => exact operands_law_no neg ds sc w hr
  | true =>
    obtain ⟨h1, h2, h3, h4, _, _⟩ := of_decide_eq_true hr
    obtain ⟨k, rfl⟩ : ∃ k : Nat, sc = k := ⟨sc.toNat, by omega⟩
    exact operands_law_yes neg ds k w hr
end Go.Proofs.YtgccppilhbannaaDoor
