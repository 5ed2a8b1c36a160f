/-
  Patterns of dates: the walk of the reference's Parse.
-/
import Derived.Test.YtbnhfjhhbgmhfaaDoorDpW
namespace Go.Proofs.YtbnhfjhhbgmhfaaDoor
open Go.RowKit Go.PlainAid

/-- What the reference knows of the quote that begins at i: it goes on at k, or it is closed there. -/
def DpC (s : ByteArray) (i k : Nat) (l L : List PF) (acc : ByteArray) (c : Bool) : Prop := (c = false → qR s (i + 1) ⟨#[]⟩ = qR s k acc) ∧ (c = true → qR s (i + 1) ⟨#[]⟩ = some (acc, k) ∧ L = putR l acc)
theorem DpC.on {s : ByteArray} {i k : Nat} {l L : List PF} {acc : ByteArray} (h : DpC s i k l L acc false) : qR s (i + 1) ⟨#[]⟩ = qR s k acc := h.1 rfl
theorem DpC.shut {s : ByteArray} {i k : Nat} {l L : List PF} {acc : ByteArray} (h : DpC s i k l L acc true) : qR s (i + 1) ⟨#[]⟩ = some (acc, k) ∧ L = putR l acc := h.2 rfl
theorem DpC.go {s : ByteArray} {i k : Nat} {l L : List PF} {acc : ByteArray} (h : qR s (i + 1) ⟨#[]⟩ = qR s k acc) : DpC s i k l L acc false := ⟨fun _ => h, fun h => by cases h⟩
theorem DpC.end {s : ByteArray} {i k : Nat} {l L : List PF} {acc : ByteArray} (h : qR s (i + 1) ⟨#[]⟩ = some (acc, k)) (hL : L = putR l acc) : DpC s i k l L acc true := ⟨(fun h => by cases h), fun _ => ⟨h, hL⟩⟩
/-- What the reference has put behind the fields l of the quote that begins at i, up to place k. -/
def DpQ (i k : Nat) (l L : List PF) (acc : ByteArray) : Prop :=
  (k = i + 1 ∧ acc = ⟨#[]⟩ ∧ L = l) ∨ (i + 1 < k ∧ L = putR l acc)
theorem DpQ.put {i k k' : Nat} {l L : List PF} {acc : ByteArray} (h : DpQ i k l L acc) (t : ByteArray) (hk : k < k') : DpQ i k' l (putR L t) (acc ++ t) := by
  rcases h with ⟨rfl, rfl, rfl⟩ | ⟨h1, rfl⟩
  · exact .inr ⟨hk, by rw [show (⟨#[]⟩ : ByteArray) ++ t = t from ByteArray.empty_append]⟩
  · exact .inr ⟨by omega, putR_putR _ _ _⟩
theorem DpQ.small {i k : Nat} {l L : List PF} {acc : ByteArray} (h : DpQ i k l L acc) (ha : acc.size + (i + 1) ≤ k) (hll : l.length ≤ i) (hlx : ∀ x ∈ l, x.2.2.size ≤ i) : L.length ≤ k ∧ ∀ x ∈ L, x.2.2.size ≤ k := by
  rcases h with ⟨rfl, rfl, rfl⟩ | ⟨h1, rfl⟩
  · exact ⟨by omega, fun x hx => by have := hlx x hx; omega⟩
  · exact ⟨by have := putR_length l acc; omega, putR_size hlx (by omega)⟩

set_option maxRecDepth 100000 in
set_option maxHeartbeats 4000000 in
theorem rDparse_any (s : ByteArray) (w : World) (hs : s.size ≤ 1000000000000000) :
    Calls Tryd.prog 13 #[.string s] w fun e w' => DpR w.heap.size (dpParse s) e w' ∧ Below w.heap.size w w' := by
  have hck := fun W => right_any s W hs
  have hB0 := (Below.refl w.heap.size w).alloc (Nat.le_refl _) (.cells #[.int .i64 0, .int .i64 0] 26)
  have sp := Blk.new w #[.int .i64 0, .int .i64 0] 26
  by_cases hbig : 4096 < s.size
  · have hr : dpParse s = ([], 3, 0) := if_pos hbig
    have hbI : (4096 : Int) < s.size := by omega
    have HR := Lib.hid hr
    clear hr hck hbig sp
    go_enter Tryd.func13, Tryd.ntmps13
    go_wp2_with fail
    refine bodyPost_ret (v := .tuple #[.slice none 0 0, .agg #[.int .i64 3, .int .i64 0]]) (by simp [results, Tryd.results13, go_sem]) rfl ⟨dpR_bad (by rw [HR.out]), ?_⟩
    exact (Below.refl w.heap.size w).alloc (Nat.le_refl _) _
  · have hbI : ¬ (4096 : Int) < s.size := by omega
    have hs4 : s.size ≤ 4096 := by omega
    by_cases hb : 0 ≤ brk s 0
    · have hr : dpParse s = ([], 6, brk s 0) := by unfold dpParse; rw [if_neg hbig, if_pos hb]
      have HR := Lib.hid hr
      generalize brk s 0 = k at *
      clear hr hbig
      go_enter Tryd.func13, Tryd.ntmps13
      go_wp2_with fail
      refine (hck _).mono ?_
      rintro e w1 ⟨rfl, rfl⟩
      go_wp2_with fail
      refine bodyPost_ret (v := .tuple #[.slice none 0 0, .agg #[.int .i64 6, .int .i64 k]]) (by simp [results, Tryd.results13, go_sem]) rfl ⟨dpR_bad (by rw [HR.out]), ?_⟩
      exact (Below.refl w.heap.size w).alloc (Nat.le_refl _) _
    · have hr : dpParse s = pR s 0 [] := by unfold dpParse; rw [if_neg hbig, if_neg hb]
      have HR := Lib.hid hr
      generalize brk s 0 = k at *
      have hk0 : ¬ 0 ≤ k := hb
      clear hr hbig hb
      go_enter Tryd.func13, Tryd.ntmps13
      go_wp2_with fail
      refine (hck _).mono ?_
      rintro e w1 ⟨rfl, rfl⟩
      clear hck
      go_wp2_with fail
      have hlt0 := sp.lt
      have hcs : (w.alloc (.cells #[.int .i64 0, .int .i64 0] 26)).cell? ⟨w.heap.size, 0, none⟩ = some (.int .i64 0) ∧ (w.alloc (.cells #[.int .i64 0, .int .i64 0] 26)).cell? ⟨w.heap.size, 1, none⟩ = some (.int .i64 0) ∧ (w.alloc (.cells #[.int .i64 0, .int .i64 0] 26)).frozen? ⟨w.heap.size, 0, none⟩ = false ∧ (w.alloc (.cells #[.int .i64 0, .int .i64 0] 26)).frozen? ⟨w.heap.size, 1, none⟩ = false := ⟨sp.cell 0, sp.cell 1, sp.free 0, sp.free 1⟩
      clear sp
      generalize hW0 : w.alloc (.cells #[.int .i64 0, .int .i64 0] 26) = W0 at *
      clear hW0
      have HCS := Lib.hid hcs
      clear hcs
      go_loopg [5, 6] s.size (fun g s5 s6 wr => ∃ (i : Nat) (l : List PF), s6 = .int .i64 (i : Int) ∧ g = s.size - i ∧ i ≤ s.size ∧ pR s 0 [] = pR s i l ∧ l.length ≤ i ∧ (∀ x ∈ l, x.2.2.size ≤ i) ∧ PFRow W0.heap.size wr s5 l ∧ Below W0.heap.size W0 wr)
      case atStart => exact ⟨0, [], rfl, rfl, Nat.zero_le _, rfl, Nat.le_refl _, by simp, PFRow.nil _ _, Below.refl _ _⟩
      case round =>
        obtain ⟨i, l, rfl, hg, hi, hpr, hll, hlx, hrow, hB⟩ := hrel
        have HX := Lib.hid hlx
        have HP := Lib.hid hpr
        have hzB := hB.size
        obtain ⟨c0, c1, f0, f1⟩ := spot_held hlt0 HCS.out hB
        have hb1 : w.heap.size < wr.heap.size := by omega
        clear hlx hpr
        by_cases hlt : i < s.size
        · have hbi : ((s[i]'hlt).toNat : Int) = bt s i := by unfold bt; rw [dif_pos hlt]
          have hbn : (bt s i).toNat < 256 := by have := bt_le s i; have := bt_nonneg s i; omega
          have hbz : (((bt s i).toNat : Nat) : Int) = bt s i := by have := bt_nonneg s i; omega
          have hst2 := pR_step (l := l) hlt
          have hlet := fun W => rLetter_any (bt s i) W
          have hl4 : l.length ≤ 1000000 := by omega
          have hx4 : ∀ x ∈ l, x.2.2.size ≤ 1000000 := fun x hx => by have := HX.out x hx; omega
          have hputx := fun T W hr hb ht => rMore_any W0.heap.size u5 l T W hr hb hl4 ht hx4
          have HPUT := Lib.hid hputx
          clear hl4 hx4 hputx
          by_cases hL : bLetter (bt s i) = true
          · rw [if_pos hL] at hst2
            rw [hL] at hlet
            have hrow1 := fun W => row_any s i W (by omega) hlt
            have hrk := fun W => rRank_any (bt s i).toNat hbn W
            rw [hbz] at hrk
            have hrle := rankB_le (bt s i)
            have hmo := fun h0 W => rMost_any (rankB (bt s i)) h0 hrle W
            have hm9 := mostN_le (rankB (bt s i))
            have hrm := runTo_more hlt
            have hre := (runTo_ge (s := s) (b := bt s i) _ i rfl).2 hi
            obtain ⟨m, hm⟩ : ∃ m, runTo s (bt s i) i = i + m := ⟨runTo s (bt s i) i - i, by omega⟩
            rw [hm, show i + m - i = m by omega] at hst2
            rw [hm] at hrow1 hrm hre
            rw [show i + m - i = m by omega] at hrow1
            clear hm hL hbz hbn HPUT
            by_cases hbad : rankB (bt s i) = 0 ∨ mostN (rankB (bt s i)) < m
            · rw [if_pos hbad] at hst2
              have HS2 := Lib.hid hst2
              clear hst2
              generalize rankB (bt s i) = r at *
              by_cases hr0 : r = 0
              · have hrI : ((r : Int) == 0) = true := by simp [hr0]
                clear hbad hmo hr0
                go_wp2_with fail
                refine (hlet _).mono ?_
                rintro e w1 ⟨rfl, rfl⟩
                go_wp2_with fail
                refine (hrow1 _).mono ?_
                rintro e w1 ⟨rfl, hB1⟩
                have hB2 := hB.trans (hB1.mono hzB)
                obtain ⟨c0, c1, f0, f1⟩ := spot_held hlt0 HCS.out hB2
                have hzB2 := hB2.size
                go_wp2_with fail
                refine (hrk _).mono ?_
                rintro e w2 ⟨rfl, rfl⟩
                go_wp2_with fail
                refine bodyPost_ret (v := .tuple #[.slice none 0 0, .agg #[.int .i64 270, .int .i64 i]]) (by simp [results, Tryd.results13, go_sem, c0, c1]) rfl ⟨dpR_bad (by rw [HR.out, HP.out, HS2.out]), ?_⟩
                exact (((hB0.trans (hB2.mono (Nat.le_of_lt hlt0))).setCell (p := ⟨w.heap.size, 0, none⟩) (Nat.le_refl _) _).setCell (p := ⟨w.heap.size, 1, none⟩) (Nat.le_refl _) _)
              · have hrI : ((r : Int) == 0) = false := by simp [hr0]
                have hmo1 := hmo (by omega)
                have hmI : (mostN r : Int) < m := by omega
                generalize mostN r = q at *
                clear hbad hmo hr0
                go_wp2_with fail
                refine (hlet _).mono ?_
                rintro e w1 ⟨rfl, rfl⟩
                go_wp2_with fail
                refine (hrow1 _).mono ?_
                rintro e w1 ⟨rfl, hB1⟩
                have hB2 := hB.trans (hB1.mono hzB)
                obtain ⟨c0, c1, f0, f1⟩ := spot_held hlt0 HCS.out hB2
                have hzB2 := hB2.size
                go_wp2_with fail
                refine (hrk _).mono ?_
                rintro e w2 ⟨rfl, rfl⟩
                go_wp2_with fail
                refine (hmo1 _).mono ?_
                rintro e w2 ⟨rfl, rfl⟩
                go_wp2_with fail
                refine bodyPost_ret (v := .tuple #[.slice none 0 0, .agg #[.int .i64 270, .int .i64 i]]) (by simp [results, Tryd.results13, go_sem, c0, c1]) rfl ⟨dpR_bad (by rw [HR.out, HP.out, HS2.out]), ?_⟩
                exact (((hB0.trans (hB2.mono (Nat.le_of_lt hlt0))).setCell (p := ⟨w.heap.size, 0, none⟩) (Nat.le_refl _) _).setCell (p := ⟨w.heap.size, 1, none⟩) (Nat.le_refl _) _)
            · rw [if_neg hbad] at hst2
              have HS2 := Lib.hid hst2
              have hr0 : ¬ rankB (bt s i) = 0 := fun h => hbad (.inl h)
              have hmI : ¬ (mostN (rankB (bt s i)) : Int) < m := by omega
              have hrI : ((rankB (bt s i) : Int) == 0) = false := by simp [hr0]
              have hmo1 := hmo (by omega)
              clear hst2 hbad hr0 hmo
              generalize rankB (bt s i) = r at *
              generalize mostN r = q at *
              go_wp2_with fail
              refine (hlet _).mono ?_
              rintro e w1 ⟨rfl, rfl⟩
              go_wp2_with fail
              refine (hrow1 _).mono ?_
              rintro e w1 ⟨rfl, hB1⟩
              have hB2 := hB.trans (hB1.mono hzB)
              have hrow2 := hrow.later hB1
              have hzB2 := hB2.size
              go_wp2_with fail
              refine (hrk _).mono ?_
              rintro e w2 ⟨rfl, rfl⟩
              go_wp2_with fail
              refine (hmo1 _).mono ?_
              rintro e w2 ⟨rfl, rfl⟩
              go_wp2_with (at_builtin; go_must (refine wpList_snoc_pf (x := (bt s i, (m : Int), ⟨#[]⟩)) rfl _ _ rfl W0.heap.size u5 l rfl hrow2 _ rfl rfl (by omega) hB2 (Nat.le_refl _) hzB2 ?_); intro v' w2 hrow3 hB3)
              go_roundg (s.size - (i + m))
              case rel => exact ⟨i + m, l ++ [(bt s i, (m : Int), ⟨#[]⟩)], by push_cast; rfl, rfl, by omega, by rw [HP.out, HS2.out], by simp; omega, snoc_size HX.out (Nat.zero_le _) (by omega), hrow3, hB3⟩
              case measure => omega
          · have hLf : bLetter (bt s i) = false := by simpa using hL
            rw [hLf] at hlet
            rw [if_neg hL] at hst2
            have hi0 : (0 : Int) ≤ (i : Int) + 1 := by omega
            have hi1 : ((i : Int) + 1).toNat = i + 1 := by omega
            have hi2 : (i : Int) + 1 ≤ s.size := by omega
            clear hL hLf hbz hbn
            by_cases h39 : bt s i = 39
            · rw [if_neg (by simp [h39])] at hst2
              have h39b : (bt s i != 39) = false := by simp [h39]
              by_cases h2 : i + 1 < s.size ∧ bt s (i + 1) = 39
              · rw [if_pos h2] at hst2
                have HS2 := Lib.hid hst2
                obtain ⟨h21, h22⟩ := h2
                have hb21 : ((s[i + 1]'h21).toNat : Int) = bt s (i + 1) := by unfold bt; rw [dif_pos h21]
                have h22b : (bt s (i + 1) == 39) = true := by simp [h22]
                have h21I : (i : Int) + 1 < s.size := by omega
                clear hst2 h22 h39
                go_wp2_with fail
                refine (hlet _).mono ?_
                rintro e w1 ⟨rfl, rfl⟩
                go_wp2_with fail
                refine (HPUT.out ⟨#[39]⟩ _ hrow hzB (by decide)).mono ?_
                rintro e w2 ⟨v', rfl, hrow2, hB2⟩
                go_wp2_with fail
                go_roundg (s.size - (i + 2))
                case rel => exact ⟨i + 2, putR l ⟨#[39]⟩, by push_cast; rfl, rfl, by omega, by rw [HP.out, HS2.out], by have := putR_length l ⟨#[39]⟩; omega, putR_size HX.out (by show 1 + i ≤ i + 2; omega), hrow2, hB.trans hB2⟩
                case measure => omega
              · rw [if_neg h2] at hst2
                have HS := Lib.hid hst2
                have H2 := Lib.hid h2
                have hbig2 : ∀ h : i + 1 < s.size, (bt s (i + 1) == 39) = false ∧ ((s[i + 1]'h).toNat : Int) = bt s (i + 1) := fun h => ⟨by simpa using fun e => h2 ⟨h, e⟩, by unfold bt; rw [dif_pos h]⟩
                clear hst2 h39
                by_cases h21 : i + 1 < s.size
                · obtain ⟨h22b, hb21⟩ := hbig2 h21
                  have h21I : (i : Int) + 1 < s.size := by omega
                  clear hbig2 h2
                  go_wp2_with fail
                  refine (hlet _).mono ?_
                  rintro e w1 ⟨rfl, rfl⟩
                  go_wp2_with fail
                  obtain ⟨wo, rfl⟩ : ∃ wo : World, wo = wr := ⟨_, rfl⟩
                  go_loopg [5, 6, 10] (s.size - (i + 1)) (fun g s5 s6 s10 wx => ∃ (k : Nat) (L : List PF) (acc : ByteArray) (c : Bool), s6 = .int .i64 (k : Int) ∧ s10 = .bool c ∧ g = s.size - k ∧ k ≤ s.size ∧ i + 1 ≤ k ∧ acc.size + (i + 1) ≤ k ∧ DpQ i k l L acc ∧ DpC s i k l L acc c ∧ PFRow W0.heap.size wx s5 L ∧ Below W0.heap.size W0 wx)
                  case atStart => exact ⟨i + 1, l, ⟨#[]⟩, false, by push_cast; rfl, rfl, rfl, by omega, Nat.le_refl _, by show 0 + (i + 1) ≤ i + 1; omega, .inl ⟨rfl, rfl, rfl⟩, DpC.go rfl, hrow, hB⟩
                  case round =>
                    obtain ⟨k, L, acc, c, rfl, rfl, hg2, hk, hik, hacc, hdq, hq, hrowx, hBx⟩ := hrel
                    have hsm := hdq.small hacc hll HX.out
                    obtain ⟨hsm1, hsm2⟩ := hsm
                    have HSM := Lib.hid hsm2
                    have HDQ := Lib.hid hdq
                    have HQ := Lib.hid hq
                    have hzx := hBx.size
                    obtain ⟨c0, c1, f0, f1⟩ := spot_held hlt0 HCS.out hBx
                    have hb1 : w.heap.size < wr.heap.size := by omega
                    have hl4 : L.length ≤ 1000000 := by omega
                    have hx4 : ∀ x ∈ L, x.2.2.size ≤ 1000000 := fun x hx => by have := HSM.out x hx; omega
                    have hputx := fun T W hr hb ht => rMore_any W0.heap.size u5 L T W hr hb hl4 ht hx4
                    have HPUT := Lib.hid hputx
                    clear hsm2 hdq hq hl4 hx4 hputx
                    cases c with
                    | true =>
                      by_cases hks : k < s.size
                      · have hksI : (k : Int) < s.size := by omega
                        go_wp2_with fail
                        go_roundg (s.size - k)
                        case rel => exact ⟨k, L, rfl, rfl, hk, by rw [HP.out, HS.out, HQ.out.shut.1, HQ.out.shut.2], hsm1, HSM.out, hrowx, hBx⟩
                        case measure => omega
                      · have hksI : ¬ (k : Int) < s.size := by omega
                        go_wp2_with fail
                        go_roundg (s.size - k)
                        case rel => exact ⟨k, L, rfl, rfl, hk, by rw [HP.out, HS.out, HQ.out.shut.1, HQ.out.shut.2], hsm1, HSM.out, hrowx, hBx⟩
                        case measure => omega
                    | false =>
                      by_cases hks : k < s.size
                      · have hksI : (k : Int) < s.size := by omega
                        have hbk : ((s[k]'hks).toNat : Int) = bt s k := by unfold bt; rw [dif_pos hks]
                        have hk0 : (0 : Int) ≤ (k : Int) + 1 := by omega
                        have hk1 : ((k : Int) + 1).toNat = k + 1 := by omega
                        have hk2 : (k : Int) + 1 ≤ s.size := by omega
                        by_cases hk39 : bt s k = 39
                        · have hk39b : (bt s k != 39) = false := by simp [hk39]
                          by_cases hkk : k + 1 < s.size ∧ bt s (k + 1) = 39
                          · have hnew := qR_two (acc := acc) hkk.1 hk39 hkk.2
                            have HN := Lib.hid hnew
                            obtain ⟨h31, h32⟩ := hkk
                            have hb31 : ((s[k + 1]'h31).toNat : Int) = bt s (k + 1) := by unfold bt; rw [dif_pos h31]
                            have h32b : (bt s (k + 1) == 39) = true := by simp [h32]
                            have h31I : (k : Int) + 1 < s.size := by omega
                            clear hnew h32 hk39
                            go_wp2_with fail
                            refine (HPUT.out ⟨#[39]⟩ _ hrowx hzx (by decide)).mono ?_
                            rintro e w2 ⟨v', rfl, hrow2, hB2⟩
                            go_wp2_with fail
                            go_roundg (s.size - (k + 2))
                            case rel => exact ⟨k + 2, putR L ⟨#[39]⟩, acc ++ ⟨#[39]⟩, false, by push_cast; rfl, rfl, rfl, by omega, by omega, by rw [ByteArray.size_append, show (⟨#[39]⟩ : ByteArray).size = 1 from rfl]; omega, HDQ.out.put _ (by omega), DpC.go (by rw [HQ.out.on, HN.out]), hrow2, hBx.trans hB2⟩
                            case measure => omega
                          · have hnew := qR_close (acc := acc) hks hk39 hkk
                            have HN := Lib.hid hnew
                            have hik2 : i + 1 < k := by
                              rcases Nat.lt_or_ge (i + 1) k with h | h
                              · exact h
                              · have he : k = i + 1 := by omega
                                exact absurd ⟨by omega, by rw [← he]; exact hk39⟩ H2.out
                            have hL2 : L = putR l acc := by
                              rcases HDQ.out with ⟨h, _⟩ | ⟨_, h⟩
                              · omega
                              · exact h
                            have HL2 := Lib.hid hL2
                            have hbig3 : ∀ h : k + 1 < s.size, (bt s (k + 1) == 39) = false ∧ ((s[k + 1]'h).toNat : Int) = bt s (k + 1) := fun h => ⟨by simpa using fun e => hkk ⟨h, e⟩, by unfold bt; rw [dif_pos h]⟩
                            clear hnew hk39 hL2 hkk
                            by_cases h31 : k + 1 < s.size
                            · obtain ⟨h32b, hb31⟩ := hbig3 h31
                              have h31I : (k : Int) + 1 < s.size := by omega
                              clear hbig3
                              go_wp2_with fail
                              go_roundg (s.size - (k + 1))
                              case rel => exact ⟨k + 1, L, acc, true, by push_cast; rfl, rfl, rfl, by omega, by omega, by omega, .inr ⟨by omega, HL2.out⟩, DpC.end (by rw [HQ.out.on, HN.out]) HL2.out, hrowx, hBx⟩
                              case measure => omega
                            · have h31I : ¬ (k : Int) + 1 < s.size := by omega
                              clear hbig3
                              go_wp2_with fail
                              go_roundg (s.size - (k + 1))
                              case rel => exact ⟨k + 1, L, acc, true, by push_cast; rfl, rfl, rfl, by omega, by omega, by omega, .inr ⟨by omega, HL2.out⟩, DpC.end (by rw [HQ.out.on, HN.out]) HL2.out, hrowx, hBx⟩
                              case measure => omega
                        · have hk39b : (bt s k != 39) = true := by simpa using hk39
                          have hnew := qR_plain (acc := acc) hks hk39
                          have HN := Lib.hid hnew
                          have hTz : (s.extract k (k + 1)).size = 1 := by simp; omega
                          have HTZ := Lib.hid hTz
                          clear hnew hk39 hTz
                          go_wp2_with fail
                          refine (HPUT.out (s.extract k (k + 1)) _ hrowx hzx (by rw [HTZ.out]; decide)).mono ?_
                          rintro e w2 ⟨v', rfl, hrow2, hB2⟩
                          go_wp2_with fail
                          go_roundg (s.size - (k + 1))
                          case rel => exact ⟨k + 1, putR L (s.extract k (k + 1)), acc ++ s.extract k (k + 1), false, by push_cast; rfl, rfl, rfl, by omega, by omega, by rw [ByteArray.size_append, HTZ.out]; omega, HDQ.out.put _ (by omega), DpC.go (by rw [HQ.out.on, HN.out]), hrow2, hBx.trans hB2⟩
                          case measure => omega
                      · have hksI : ¬ (k : Int) < s.size := by omega
                        have hend := qR_end (acc := acc) hks
                        have HE := Lib.hid hend
                        clear hend
                        go_wp2_with fail
                        refine bodyPost_ret (v := .tuple #[.slice none 0 0, .agg #[.int .i64 271, .int .i64 i]]) (by simp [results, Tryd.results13, go_sem, c0, c1]) rfl ⟨dpR_bad (by rw [HR.out, HP.out, HS.out, HQ.out.on, HE.out]), ?_⟩
                        exact (((hB0.trans (hBx.mono (Nat.le_of_lt hlt0))).setCell (p := ⟨w.heap.size, 0, none⟩) (Nat.le_refl _) _).setCell (p := ⟨w.heap.size, 1, none⟩) (Nat.le_refl _) _)
                · have h21I : ¬ (i : Int) + 1 < s.size := by omega
                  clear hbig2 h2
                  go_wp2_with fail
                  refine (hlet _).mono ?_
                  rintro e w1 ⟨rfl, rfl⟩
                  go_wp2_with fail
                  obtain ⟨wo, rfl⟩ : ∃ wo : World, wo = wr := ⟨_, rfl⟩
                  go_loopg [5, 6, 10] (s.size - (i + 1)) (fun g s5 s6 s10 wx => ∃ (k : Nat) (L : List PF) (acc : ByteArray) (c : Bool), s6 = .int .i64 (k : Int) ∧ s10 = .bool c ∧ g = s.size - k ∧ k ≤ s.size ∧ i + 1 ≤ k ∧ acc.size + (i + 1) ≤ k ∧ DpQ i k l L acc ∧ DpC s i k l L acc c ∧ PFRow W0.heap.size wx s5 L ∧ Below W0.heap.size W0 wx)
                  case atStart => exact ⟨i + 1, l, ⟨#[]⟩, false, by push_cast; rfl, rfl, rfl, by omega, Nat.le_refl _, by show 0 + (i + 1) ≤ i + 1; omega, .inl ⟨rfl, rfl, rfl⟩, DpC.go rfl, hrow, hB⟩
                  case round =>
                    obtain ⟨k, L, acc, c, rfl, rfl, hg2, hk, hik, hacc, hdq, hq, hrowx, hBx⟩ := hrel
                    have hsm := hdq.small hacc hll HX.out
                    obtain ⟨hsm1, hsm2⟩ := hsm
                    have HSM := Lib.hid hsm2
                    have HDQ := Lib.hid hdq
                    have HQ := Lib.hid hq
                    have hzx := hBx.size
                    obtain ⟨c0, c1, f0, f1⟩ := spot_held hlt0 HCS.out hBx
                    have hb1 : w.heap.size < wr.heap.size := by omega
                    have hl4 : L.length ≤ 1000000 := by omega
                    have hx4 : ∀ x ∈ L, x.2.2.size ≤ 1000000 := fun x hx => by have := HSM.out x hx; omega
                    have hputx := fun T W hr hb ht => rMore_any W0.heap.size u5 L T W hr hb hl4 ht hx4
                    have HPUT := Lib.hid hputx
                    clear hsm2 hdq hq hl4 hx4 hputx
                    cases c with
                    | true =>
                      by_cases hks : k < s.size
                      · have hksI : (k : Int) < s.size := by omega
                        go_wp2_with fail
                        go_roundg (s.size - k)
                        case rel => exact ⟨k, L, rfl, rfl, hk, by rw [HP.out, HS.out, HQ.out.shut.1, HQ.out.shut.2], hsm1, HSM.out, hrowx, hBx⟩
                        case measure => omega
                      · have hksI : ¬ (k : Int) < s.size := by omega
                        go_wp2_with fail
                        go_roundg (s.size - k)
                        case rel => exact ⟨k, L, rfl, rfl, hk, by rw [HP.out, HS.out, HQ.out.shut.1, HQ.out.shut.2], hsm1, HSM.out, hrowx, hBx⟩
                        case measure => omega
                    | false =>
                      by_cases hks : k < s.size
                      · have hksI : (k : Int) < s.size := by omega
                        have hbk : ((s[k]'hks).toNat : Int) = bt s k := by unfold bt; rw [dif_pos hks]
                        have hk0 : (0 : Int) ≤ (k : Int) + 1 := by omega
                        have hk1 : ((k : Int) + 1).toNat = k + 1 := by omega
                        have hk2 : (k : Int) + 1 ≤ s.size := by omega
                        by_cases hk39 : bt s k = 39
                        · have hk39b : (bt s k != 39) = false := by simp [hk39]
                          by_cases hkk : k + 1 < s.size ∧ bt s (k + 1) = 39
                          · have hnew := qR_two (acc := acc) hkk.1 hk39 hkk.2
                            have HN := Lib.hid hnew
                            obtain ⟨h31, h32⟩ := hkk
                            have hb31 : ((s[k + 1]'h31).toNat : Int) = bt s (k + 1) := by unfold bt; rw [dif_pos h31]
                            have h32b : (bt s (k + 1) == 39) = true := by simp [h32]
                            have h31I : (k : Int) + 1 < s.size := by omega
                            clear hnew h32 hk39
                            go_wp2_with fail
                            refine (HPUT.out ⟨#[39]⟩ _ hrowx hzx (by decide)).mono ?_
                            rintro e w2 ⟨v', rfl, hrow2, hB2⟩
                            go_wp2_with fail
                            go_roundg (s.size - (k + 2))
                            case rel => exact ⟨k + 2, putR L ⟨#[39]⟩, acc ++ ⟨#[39]⟩, false, by push_cast; rfl, rfl, rfl, by omega, by omega, by rw [ByteArray.size_append, show (⟨#[39]⟩ : ByteArray).size = 1 from rfl]; omega, HDQ.out.put _ (by omega), DpC.go (by rw [HQ.out.on, HN.out]), hrow2, hBx.trans hB2⟩
                            case measure => omega
                          · have hnew := qR_close (acc := acc) hks hk39 hkk
                            have HN := Lib.hid hnew
                            have hik2 : i + 1 < k := by
                              rcases Nat.lt_or_ge (i + 1) k with h | h
                              · exact h
                              · have he : k = i + 1 := by omega
                                exact absurd ⟨by omega, by rw [← he]; exact hk39⟩ H2.out
                            have hL2 : L = putR l acc := by
                              rcases HDQ.out with ⟨h, _⟩ | ⟨_, h⟩
                              · omega
                              · exact h
                            have HL2 := Lib.hid hL2
                            have hbig3 : ∀ h : k + 1 < s.size, (bt s (k + 1) == 39) = false ∧ ((s[k + 1]'h).toNat : Int) = bt s (k + 1) := fun h => ⟨by simpa using fun e => hkk ⟨h, e⟩, by unfold bt; rw [dif_pos h]⟩
                            clear hnew hk39 hL2 hkk
                            by_cases h31 : k + 1 < s.size
                            · obtain ⟨h32b, hb31⟩ := hbig3 h31
                              have h31I : (k : Int) + 1 < s.size := by omega
                              clear hbig3
                              go_wp2_with fail
                              go_roundg (s.size - (k + 1))
                              case rel => exact ⟨k + 1, L, acc, true, by push_cast; rfl, rfl, rfl, by omega, by omega, by omega, .inr ⟨by omega, HL2.out⟩, DpC.end (by rw [HQ.out.on, HN.out]) HL2.out, hrowx, hBx⟩
                              case measure => omega
                            · have h31I : ¬ (k : Int) + 1 < s.size := by omega
                              clear hbig3
                              go_wp2_with fail
                              go_roundg (s.size - (k + 1))
                              case rel => exact ⟨k + 1, L, acc, true, by push_cast; rfl, rfl, rfl, by omega, by omega, by omega, .inr ⟨by omega, HL2.out⟩, DpC.end (by rw [HQ.out.on, HN.out]) HL2.out, hrowx, hBx⟩
                              case measure => omega
                        · have hk39b : (bt s k != 39) = true := by simpa using hk39
                          have hnew := qR_plain (acc := acc) hks hk39
                          have HN := Lib.hid hnew
                          have hTz : (s.extract k (k + 1)).size = 1 := by simp; omega
                          have HTZ := Lib.hid hTz
                          clear hnew hk39 hTz
                          go_wp2_with fail
                          refine (HPUT.out (s.extract k (k + 1)) _ hrowx hzx (by rw [HTZ.out]; decide)).mono ?_
                          rintro e w2 ⟨v', rfl, hrow2, hB2⟩
                          go_wp2_with fail
                          go_roundg (s.size - (k + 1))
                          case rel => exact ⟨k + 1, putR L (s.extract k (k + 1)), acc ++ s.extract k (k + 1), false, by push_cast; rfl, rfl, rfl, by omega, by omega, by rw [ByteArray.size_append, HTZ.out]; omega, HDQ.out.put _ (by omega), DpC.go (by rw [HQ.out.on, HN.out]), hrow2, hBx.trans hB2⟩
                          case measure => omega
                      · have hksI : ¬ (k : Int) < s.size := by omega
                        have hend := qR_end (acc := acc) hks
                        have HE := Lib.hid hend
                        clear hend
                        go_wp2_with fail
                        refine bodyPost_ret (v := .tuple #[.slice none 0 0, .agg #[.int .i64 271, .int .i64 i]]) (by simp [results, Tryd.results13, go_sem, c0, c1]) rfl ⟨dpR_bad (by rw [HR.out, HP.out, HS.out, HQ.out.on, HE.out]), ?_⟩
                        exact (((hB0.trans (hBx.mono (Nat.le_of_lt hlt0))).setCell (p := ⟨w.heap.size, 0, none⟩) (Nat.le_refl _) _).setCell (p := ⟨w.heap.size, 1, none⟩) (Nat.le_refl _) _)
            · rw [if_pos h39] at hst2
              have HS2 := Lib.hid hst2
              have h39b : (bt s i != 39) = true := by simpa using h39
              have hTz : (s.extract i (i + 1)).size = 1 := by simp; omega
              have HTZ := Lib.hid hTz
              clear hst2 h39 hTz
              go_wp2_with fail
              refine (hlet _).mono ?_
              rintro e w1 ⟨rfl, rfl⟩
              go_wp2_with fail
              refine (HPUT.out (s.extract i (i + 1)) _ hrow hzB (by rw [HTZ.out]; decide)).mono ?_
              rintro e w2 ⟨v', rfl, hrow2, hB2⟩
              go_wp2_with fail
              go_roundg (s.size - (i + 1))
              case rel => exact ⟨i + 1, putR l (s.extract i (i + 1)), by push_cast; rfl, rfl, by omega, by rw [HP.out, HS2.out], by have := putR_length l (s.extract i (i + 1)); omega, putR_size HX.out (by rw [HTZ.out]; omega), hrow2, hB.trans hB2⟩
              case measure => omega
        · have hie : i = s.size := by omega
          have hend := pR_end (l := l) hlt
          have HE := Lib.hid hend
          clear hend hlt
          subst hie
          go_wp2_with fail
          refine bodyPost_ret (v := .tuple #[u5, .agg #[.int .i64 0, .int .i64 0]]) (by simp [results, Tryd.results13, go_sem, c0, c1]) rfl ⟨⟨u5, by rw [HR.out, HP.out, HE.out], ?_⟩, ?_⟩
          · rw [HR.out, HP.out, HE.out]
            exact ((hrow.other (p := ⟨w.heap.size, 0, none⟩) hlt0 _).other (p := ⟨w.heap.size, 1, none⟩) hlt0 _).mono (Nat.le_of_lt hlt0)
          · exact (((hB0.trans (hB.mono (Nat.le_of_lt hlt0))).setCell (p := ⟨w.heap.size, 0, none⟩) (Nat.le_refl _) _).setCell (p := ⟨w.heap.size, 1, none⟩) (Nat.le_refl _) _)
end Go.Proofs.YtbnhfjhhbgmhfaaDoor
