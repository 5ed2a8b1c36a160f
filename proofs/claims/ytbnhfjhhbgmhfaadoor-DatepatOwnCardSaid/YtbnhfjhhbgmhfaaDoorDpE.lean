/-
  Patterns of dates: Print, the reference's.
-/
import Derived.Test.YtbnhfjhhbgmhfaaDoorDpD
namespace Go.Proofs.YtbnhfjhhbgmhfaaDoor
open Go.RowKit Go.PlainAid

/-- Fields that may each be, with letters that are bytes, of no great size. -/
def PFin (l : List PF) : Prop := l.length ≤ 1100000 ∧ ∀ x ∈ l, fldB x = true ∧ 0 ≤ x.1 ∧ x.1 ≤ 255 ∧ x.2.2.size ≤ 1100000
theorem PFin.rows {l : List PF} (h : PFin l) {i : Nat} (hi : i < l.length) : fldB l[i] = true ∧ 0 ≤ l[i].1 ∧ l[i].1 ≤ 255 ∧ l[i].2.2.size ≤ 1100000 := h.2 _ (List.getElem_mem hi)
theorem fldB_count {x : PF} (h : fldB x = true) : 0 ≤ x.2.1 ∧ x.2.1 ≤ 9 ∧ (x.1 = 0 → x.2.1 = 0) ∧ (x.1 ≠ 0 → x.2.2 = ⟨#[]⟩ ∧ rankB x.1 ≠ 0 ∧ 1 ≤ x.2.1) := by
  unfold fldB at h
  have hm := mostN_le (rankB x.1)
  by_cases h0 : x.1 = 0
  · rw [if_pos h0] at h
    have := of_decide_eq_true h
    exact ⟨by omega, by omega, fun _ => this.2.1, fun h => absurd h0 h⟩
  · rw [if_neg h0] at h
    have h := of_decide_eq_true h
    refine ⟨by omega, by omega, fun h => absurd h h0, fun _ => ⟨ByteArray.ext (Array.eq_empty_of_size_eq_zero h.1), h.2.1, h.2.2.1⟩⟩
theorem repB_size (n : Nat) (b : Int) : (repB n b).size = n := by
  unfold repB
  show (List.toArray _).size = n
  simp
theorem pieceB_size {x : PF} (h : fldB x = true) (hx : x.2.2.size ≤ 1100000) : (pieceB x).size ≤ 7000000 := by
  have h1 := fldB_count h
  have h2 := dress_size x.2.2
  unfold pieceB
  rw [ByteArray.size_append, repB_size]
  omega
theorem printT_size {l : List PF} (h : PFin l) : ∀ i, i ≤ l.length → (printT (l.take i)).size ≤ i * 7000000
  | 0, _ => by rw [List.take_zero]; exact Nat.le_refl _
  | i + 1, hi => by
    have ih := printT_size h i (by omega)
    have hr := h.rows (i := i) (by omega)
    have hp := pieceB_size hr.1 hr.2.2.2
    rw [printT_next l i (by omega), ByteArray.size_append]
    omega
/-- The letters that have a rank are ASCII. -/
theorem rank_ascii {b : Int} (h : rankB b ≠ 0) : 65 ≤ b ∧ b ≤ 122 := by
  rcases Decidable.em (65 ≤ b ∧ b ≤ 122) with hb | hb
  · exact hb
  · refine absurd ?_ h
    unfold rankB
    repeat (rw [if_neg (by omega)])
theorem encode_all : ∀ n : Fin 128, Utf8.encode ((n.val : Nat) : Int) = ⟨#[UInt8.ofNat n.val]⟩ := by decide +kernel
theorem encode_ascii {b : Int} (h0 : 0 ≤ b) (h1 : b < 128) : Utf8.encode b = ⟨#[UInt8.ofNat b.toNat]⟩ := by
  have h := encode_all ⟨b.toNat, by omega⟩
  simpa [Int.toNat_of_nonneg h0] using h
theorem repB_next (n : Nat) (b : Int) : repB (n + 1) b = repB n b ++ ⟨#[UInt8.ofNat b.toNat]⟩ := by
  apply ByteArray.ext
  apply Array.toList_inj.1
  unfold repB
  rw [ByteArray.data_append, Array.toList_append]
  show List.replicate (n + 1) _ = List.replicate n _ ++ [_]
  rw [List.replicate_succ']

set_option maxRecDepth 100000 in
set_option maxHeartbeats 4000000 in
theorem rPrint_any (v : Value) (l : List PF) (w : World) (hv : PFAt w v l) (hok : PFin l) :
    Calls Tryd.prog 18 #[v] w fun e w' => e = .returned (.string (printT l)) ∧ Below w.heap.size w w' := by
  obtain ⟨a, cap, rfl, hlen, hc⟩ := hv
  have HC := Lib.hid hc
  have HOK := Lib.hid hok
  have hlm := hok.1
  clear hc hok
  go_enter Tryd.func18, Tryd.ntmps18
  go_wp2_with fail
  go_loopg [3, 4] l.length (fun g s3 s4 wr => ∃ i : Nat, s4 = .int .i64 (i : Int) ∧ i + g = l.length ∧ s3 = .string (printT (l.take i)) ∧ Below w.heap.size w wr)
  case atStart => exact ⟨0, rfl, by omega, rfl, Below.refl _ _⟩
  case round =>
    obtain ⟨i, rfl, hg, rfl, hB⟩ := hrel
    have hz := printT_size HOK.out i (by omega)
    by_cases hi : i < l.length
    · have hnx := printT_next l i hi
      have HNX := Lib.hid hnx
      obtain ⟨g, off, rfl, hgw, h0, h1, h2⟩ := HC.out i hi
      have hx := HOK.out.rows hi
      generalize l[i] = x at *
      obtain ⟨b, c, t⟩ := x
      simp only at h0 h1 h2 hx
      obtain ⟨hf, hx0, hx1, hx2⟩ := hx
      have hcn := fldB_count hf
      simp only at hcn
      obtain ⟨hc0, hc9, hcT, hcL⟩ := hcn
      obtain ⟨n, rfl⟩ : ∃ n : Nat, c = n := ⟨c.toNat, by omega⟩
      have HF := Lib.hid hf
      have HCT := Lib.hid hcT; have HCL := Lib.hid hcL
      have d0 := (hB.cell (p := ⟨g, _, none⟩) hgw).trans h0
      have d1 := (hB.cell (p := ⟨g, _, none⟩) hgw).trans h1
      have d2 := (hB.cell (p := ⟨g, _, none⟩) hgw).trans h2
      have hgr : g < wr.heap.size := by have := hB.size; omega
      have hiI : (i : Int) < l.length := by omega
      clear hnx h0 h1 h2 hf hcT hcL
      go_wp2_with fail
      obtain ⟨wo, rfl⟩ : ∃ wo : World, wo = wr := ⟨_, rfl⟩
      generalize hP : printT (l.take i) = P at *
      go_loopg [3, 5] n (fun g2 s3 s5 wx => ∃ k : Nat, s5 = .int .i64 (k : Int) ∧ k + g2 = n ∧ s3 = .string (P ++ repB k b) ∧ wx = wo)
      case atStart => exact ⟨0, rfl, by omega, by show _ = Value.string (P ++ ByteArray.empty); rw [ByteArray.append_empty], rfl⟩
      case round =>
        obtain ⟨k, rfl, hg2, rfl, rfl⟩ := hrel
        by_cases hk : k < n
        · have hb := HCL.out (fun e => by have := HCT.out e; omega)
          have hasc := rank_ascii hb.2.1
          have hrz := repB_size k b
          have hrn := repB_next k b
          have HRN := Lib.hid hrn
          have HRZ : (repB k b).size ≤ 9 := by omega
          have henc := encode_ascii (b := b) (by omega) (by omega)
          clear hb hrz hrn
          go_wp2_with fail
          go_roundg (gk - 1)
          case rel => exact ⟨k + 1, by push_cast; rfl, by omega, by rw [HRN.out, ByteArray.append_assoc], rfl⟩
          case measure => omega
        · have hkn : k = n := by omega
          subst hkn
          have hrz := repB_size k b
          have hpc : P ++ repB k b ++ dress t = P ++ pieceB (b, (k : Int), t) := by rw [ByteArray.append_assoc]; rfl
          have HPC := Lib.hid hpc
          have hRz : (P ++ repB k b).size ≤ i * 7000000 + 9 := by rw [ByteArray.size_append, hrz]; omega
          clear hpc hrz
          go_wp2_with fail
          obtain ⟨wo, rfl⟩ : ∃ wo : World, wo = wr := ⟨_, rfl⟩
          generalize P ++ repB k b = R at *
          go_loopg [7, 8, 9] t.size (fun g2 s7 s8 s9 wx => ∃ j : Nat, s9 = .int .i64 (j : Int) ∧ j + g2 = t.size ∧ s7 = .int .i64 (fstF t j 0) ∧ s8 = .int .i64 (lstF t j) ∧ wx = wo)
          case atStart => exact ⟨0, rfl, by omega, rfl, rfl, rfl⟩
          case round =>
            obtain ⟨j, rfl, hg3, rfl, rfl, rfl⟩ := hrel
            by_cases hj : j < t.size
            · have hbt : ((t[j]'hj).toNat : Int) = bt t j := by unfold bt; rw [dif_pos hj]
              have hlet := fun W => rLetter_any (bt t j) W
              have hf1 := fstF_next t j
              have hl1 : lstF t (j + 1) = (if bLetter (bt t j) = true then (j : Int) else lstF t j) := rfl
              have HF1 := Lib.hid hf1; have HL1 := Lib.hid hl1
              clear hf1 hl1
              cases hL : bLetter (bt t j) with
              | false =>
                rw [hL] at hlet
                have HL := Lib.hid hL
                clear hL
                go_wp2_with fail
                refine (hlet _).mono ?_
                rintro e w1 ⟨rfl, rfl⟩
                go_wp2_with fail
                go_roundg (gk - 1)
                case rel => exact ⟨j + 1, by push_cast; rfl, by omega, by rw [HF1.out, HL.out, if_neg (by decide : ¬ false = true)]; have := fstF_bd t j 0; split <;> first | rfl | (congr 1; omega), by rw [HL1.out, HL.out, if_neg (by decide : ¬ false = true)], rfl⟩
                case measure => omega
              | true =>
                rw [hL] at hlet
                have HL := Lib.hid hL
                clear hL
                by_cases h0 : fstF t j 0 < 0
                · go_wp2_with fail
                  refine (hlet _).mono ?_
                  rintro e w1 ⟨rfl, rfl⟩
                  go_wp2_with fail
                  go_roundg (gk - 1)
                  case rel => exact ⟨j + 1, by push_cast; rfl, by omega, by rw [HF1.out, if_pos h0, if_pos HL.out], by rw [HL1.out, if_pos HL.out], rfl⟩
                  case measure => omega
                · go_wp2_with fail
                  refine (hlet _).mono ?_
                  rintro e w1 ⟨rfl, rfl⟩
                  go_wp2_with fail
                  go_roundg (gk - 1)
                  case rel => exact ⟨j + 1, by push_cast; rfl, by omega, by rw [HF1.out, if_neg (by omega)], by rw [HL1.out, if_pos HL.out], rfl⟩
                  case measure => omega
            · have hje : j = t.size := by omega
              subst hje
              have hbd := dress_bd t
              have hdr : dress t = dressB t (fstL t) (lstL t) := rfl
              have hfe : fstF t t.size 0 = fstL t := rfl
              have hle : lstF t t.size = lstL t := rfl
              rw [hfe, hle]
              have HDR := Lib.hid hdr
              clear hdr hfe hle hj
              have hdb := fun W => rDouble_any t W (by omega)
              rcases hbd with ⟨f1, f2⟩ | ⟨f0, f1, f2⟩
              · have hdd : dress t = dblB t := by rw [HDR.out, f1]; rfl
                have HDD := Lib.hid hdd
                have hdz := dblB_le t
                rw [f1, f2]
                clear hdd f1 f2
                go_wp2_with fail
                refine (hdb _).mono ?_
                rintro e w1 ⟨rfl, rfl⟩
                go_wp2_with fail
                go_roundg (l.length - (i + 1))
                case rel => exact ⟨i + 1, by push_cast; rfl, by omega, by rw [HNX.out, ← HPC.out, HDD.out], hB⟩
                case measure => omega
              · generalize fstL t = f at *
                generalize lstL t = la at *
                obtain ⟨f, rfl⟩ : ∃ n : Nat, f = n := ⟨f.toNat, by omega⟩
                obtain ⟨la, rfl⟩ : ∃ n : Nat, la = n := ⟨la.toNat, by omega⟩
                have b1 : (dblB (t.extract 0 f)).size ≤ 200000000 := by have := dblB_le (t.extract 0 f); simp at this; omega
                have b2 : (dblB (t.extract f (la + 1))).size ≤ 200000000 := by have := dblB_le (t.extract f (la + 1)); simp at this; omega
                have b3 : (dblB (t.extract (la + 1) t.size)).size ≤ 200000000 := by have := dblB_le (t.extract (la + 1) t.size); simp at this; omega
                have n0 : ¬ 9223372036854775807 < R.size + (dblB (t.extract 0 f)).size := by omega
                have n1 : ¬ 9223372036854775807 < R.size + (dblB (t.extract 0 f)).size + 1 := by omega
                have n2 : ¬ 9223372036854775807 < R.size + (dblB (t.extract 0 f)).size + 1 + (dblB (t.extract f (la + 1))).size := by omega
                have n3 : ¬ 9223372036854775807 < R.size + (dblB (t.extract 0 f)).size + 1 + (dblB (t.extract f (la + 1))).size + 1 := by omega
                have n4 : ¬ 9223372036854775807 < R.size + (dblB (t.extract 0 f)).size + 1 + (dblB (t.extract f (la + 1))).size + 1 + (dblB (t.extract (la + 1) t.size)).size := by omega
                have l1 : (la : Int) + 1 ≤ t.size := by omega
                have l2 : IntKind.i64.wrap ((la : Int) + 1) = (la : Int) + 1 := IntWalk.i64_in _ (by omega)
                have l3 : ((la : Int) + 1).toNat = la + 1 := by omega
                have l4 : (f : Int) ≤ (la : Int) + 1 := by omega
                have l5 : (f : Int) ≤ t.size := by omega
                have l6 : (0 : Int) ≤ (la : Int) + 1 := by omega
                have l7 : (0 : Int) ≤ f := by omega
                have hfin : R ++ dblB (t.extract 0 f) ++ ⟨#[39]⟩ ++ dblB (t.extract f (la + 1)) ++ ⟨#[39]⟩ ++ dblB (t.extract (la + 1) t.size) = printT (l.take (i + 1)) := by
                  rw [HNX.out, ← HPC.out, HDR.out]
                  unfold dressB
                  rw [if_neg (by omega), l3, show ((f : Nat) : Int).toNat = f from rfl]
                  simp only [ByteArray.append_assoc]
                have HFN := Lib.hid hfin
                clear hfin
                go_wp2_with fail
                go_quiet ((go_at_call 48; exact Calls.quiet_of_same (rDouble_any _ _ (by simp; omega))))
                have hBn := bdrN hB nq
                go_wp2_with fail
                go_roundg (l.length - (i + 1))
                case rel => exact ⟨i + 1, by push_cast; rfl, by omega, by rw [← HFN.out], hBn⟩
                case measure => omega
    · have hie : i = l.length := by omega
      have hP : printT (l.take i) = printT l := by rw [hie, List.take_length]
      rw [hP]
      clear hP hi
      go_wp2_with fail
      go_ret
      exact ⟨rfl, hB⟩
end Go.Proofs.YtbnhfjhhbgmhfaaDoor
