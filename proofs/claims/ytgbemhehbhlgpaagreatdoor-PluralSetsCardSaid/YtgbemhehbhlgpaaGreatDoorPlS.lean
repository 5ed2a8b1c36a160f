/-
  Rules for numbers: the walk of the scanner's next.
-/
import Derived.Test.YtgbemhehbhlgpaaGreatDoorPlB
namespace Go.Proofs.YtgbemhehbhlgpaaGreatDoor
open Go.RowKit Go.PlainAid

/-- The scanner: what it reads, where its token begins, its token. -/
abbrev Sc (w : World) (b : Nat) (s : ByteArray) (a : Nat) (t : ByteArray) : Prop := Blk w b #[.string s, .int .i64 (a : Int), .string t]
theorem sub_sub (s : ByteArray) (a n : Nat) (h : a + n ≤ s.size) : (s.extract a s.size).extract 0 n = s.extract a (a + n) := by
  refine bytes_eq (by rw [size_sub _ _ _ (by rw [size_sub _ _ _ (Nat.le_refl _)]; omega), size_sub _ _ _ (by omega)]; omega) fun j hj => ?_
  rw [size_sub _ _ _ (by rw [size_sub _ _ _ (Nat.le_refl _)]; omega)] at hj
  rw [bt_sub _ _ _ _ hj (by rw [size_sub _ _ _ (Nat.le_refl _)]; omega), bt_sub _ _ _ _ (by omega) (Nat.le_refl _), bt_sub _ _ _ _ (by omega) (by omega)]
  congr 1
  omega

theorem two_bytes (s : ByteArray) (i : Nat) (x y : UInt8) (h : i < s.size) : Lib.hasPrefix (s.extract i s.size).data.toList [x, y] = decide (i + 1 < s.size ∧ bt s i = (x.toNat : Int) ∧ bt s (i + 1) = (y.toNat : Int)) := by
  have hl : i < s.data.toList.length := by rw [Array.length_toList]; exact h
  have e0 : ∀ (z : UInt8) j (hj : j < s.data.toList.length), (s.data.toList[j] = z) ↔ bt s j = (z.toNat : Int) := by
    intro z j hj
    have hj' : j < s.size := by rw [Array.length_toList] at hj; exact hj
    unfold bt
    rw [dif_pos hj', Array.getElem_toList]
    show s[j] = z ↔ _
    constructor
    · intro h; rw [h]
    · intro h; exact UInt8.toNat_inj.1 (by have h2 : ((s[j]).toNat : Int) = z.toNat := h; omega)
  have e : (s.extract i s.size).data.toList = s.data.toList.drop i := by
    rw [ByteArray.data_extract, Array.toList_extract, List.extract_eq_take_drop]
    exact List.take_of_length_le (by simp)
  rw [e, List.drop_eq_getElem_cons hl]
  unfold Lib.hasPrefix
  rw [Bool.eq_iff_iff, decide_eq_true_iff]
  by_cases h2 : i + 1 < s.data.toList.length
  · rw [List.drop_eq_getElem_cons h2]
    simp only [List.isPrefixOf, Bool.and_true, Bool.and_eq_true, beq_iff_eq]
    have h2' : i + 1 < s.size := by rw [Array.length_toList] at h2; exact h2
    rw [show (x = s.data.toList[i]) ↔ bt s i = (x.toNat : Int) from ⟨fun h => (e0 x i hl).1 h.symm, fun h => ((e0 x i hl).2 h).symm⟩, show (y = s.data.toList[i + 1]) ↔ bt s (i + 1) = (y.toNat : Int) from ⟨fun h => (e0 y _ h2).1 h.symm, fun h => ((e0 y _ h2).2 h).symm⟩]
    exact ⟨fun h => ⟨h2', h.1, h.2⟩, fun h => ⟨h.2.1, h.2.2⟩⟩
  · rw [List.drop_eq_nil_of_le (by omega)]
    have h2' : ¬ i + 1 < s.size := by rw [Array.length_toList] at h2; exact h2
    simp only [List.isPrefixOf, Bool.and_false, Bool.false_eq_true, false_iff]
    exact fun h => h2' h.1
theorem sc_fin {w w0 : World} {b i n q : Nat} {s t R : ByteArray} (hk : Sc w b s i t) (hO : Only b w0 w) (hq : q = i) (hn : tkN s i = n) (hR : R.extract 0 n = s.extract i (i + n)) :
    Sc (w.setCell ⟨b, 2, none⟩ (.string (R.extract 0 n))) b s q (tx s q) ∧ Only b w0 (w.setCell ⟨b, 2, none⟩ (.string (R.extract 0 n))) := by
  subst hq
  have h := hk.set 2 (.string (R.extract 0 n))
  have e : tx s q = R.extract 0 n := by unfold tx; rw [hn, hR]
  rw [e]
  exact ⟨h, hO.setCell 2 _⟩

theorem sc_fin0 {w w0 : World} {b i q : Nat} {s t : ByteArray} (hk : Sc w b s i t) (hO : Only b w0 w) (hq : q = i) (hn : tkN s i = 0) (hi : i ≤ s.size) :
    Sc (w.setCell ⟨b, 2, none⟩ (.string ByteArray.empty)) b s q (tx s q) ∧ Only b w0 (w.setCell ⟨b, 2, none⟩ (.string ByteArray.empty)) := by
  subst hq
  have h := hk.set 2 (.string ByteArray.empty)
  have e : tx s q = ByteArray.empty := bytes_eq (by rw [tx_size hi, hn]; rfl) fun j hj => by rw [tx_size hi, hn] at hj; omega
  rw [e]
  exact ⟨h, hO.setCell 2 _⟩

set_option maxRecDepth 100000 in
set_option maxHeartbeats 4000000 in
theorem next_any (b : Nat) (s t : ByteArray) (a : Nat) (w : World) (hk : Sc w b s a t) (ha : a + t.size ≤ s.size) (hs : s.size ≤ 1000000) :
    Calls Tryz.prog 37 #[.pointer (some ⟨b, 0, none⟩)] w fun e w' => e = .returned (.tuple #[]) ∧ Sc w' b s (tkG s (a + t.size)) (tx s (tkG s (a + t.size))) ∧ Only b w w' := by
  obtain ⟨p, hp⟩ : ∃ p, a + t.size = p := ⟨_, rfl⟩
  have HP := Lib.hid hp
  have hb := hk.lt
  have hkd : Sc w.drew b s a t := hk
  have c0 := hk.cell 0
  have c1 := hk.cell 1
  have c2 := hk.cell 2
  have f1 := hk.free 1
  simp at c0 c1 c2
  rw [hp] at ha ⊢
  have hO1 := ((Only.refl b w).drew).setCell 1 (.int .i64 (p : Int))
  have hsum : (a : Int) + t.size = p := by omega
  have hw : IntKind.i64.wrap (p : Int) = (p : Int) := IntWalk.i64_in _ (by omega)
  clear hp hk
  go_enter Tryz.func37, Tryz.ntmps37
  go_wp2_with fail
  go_still_tail 12, (by kernel_rfl)
  change wpList _ _ _ _ _ w.drew
  generalize w.drew = w6 at *
  clear c0 c1 c2 f1 hsum
  have c1 := hkd.cell 1
  have f1 := hkd.free 1
  simp at c1
  have hk1 : Sc (w6.setCell ⟨b, 1, none⟩ (.int .i64 (p : Int))) b s p t := hkd.set 1 (.int .i64 (p : Int))
  go_wp2_with fail
  generalize w6.setCell ⟨b, 1, none⟩ (.int .i64 (p : Int)) = w7 at *
  clear c1 f1 hkd hw
  go_loopg [] (s.size - p) (fun g wr => ∃ i : Nat, i ≤ s.size ∧ i + g = s.size ∧ Sc wr b s i t ∧ spTo bBl s i = tkG s p ∧ Only b w wr)
  case atStart => exact ⟨p, ha, by omega, hk1, rfl, hO1⟩
  case round =>
    obtain ⟨i, hi, hg, hk, hsp, hO⟩ := hrel
    clear hk1 hO1
    have c0 := hk.cell 0
    have c1 := hk.cell 1
    have f1 := hk.free 1
    simp at c0 c1
    have HSP := Lib.hid hsp
    clear hsp
    by_cases hgo : i < s.size ∧ bt s i = 32
    · obtain ⟨hlt, h32⟩ := hgo
      have hiI : (i : Int) < s.size := by omega
      have hi0 : (0 : Int) ≤ i := by omega
      have hb := get_bt s
      have h32b : (bt s i == 32) = true := by simp [h32]
      have hnx : spTo bBl s (i + 1) = tkG s p := by rw [← HSP.out, spTo_go hlt (by rw [h32]; rfl)]
      have HNX := Lib.hid hnx
      clear h32 hnx
      go_upto_region 1 with fail
      go_quiet (fail)
      have hkn := hk.bdrew nq
      have hOn := hO.drewN nq
      generalize wr.drewN nq = w8 at *
      have c1 := hkn.cell 1
      have f1 := hkn.free 1
      simp at c1
      have hk2 := hkn.set 1 (.int .i64 ((i : Int) + 1))
      have hO2 := hOn.setCell 1 (.int .i64 ((i : Int) + 1))
      go_wp2_with fail
      go_roundg (gk - 1)
      case rel => exact ⟨i + 1, by omega, by omega, by push_cast; exact hk2, HNX.out, hO2⟩
      case measure => omega
    · have hq : tkG s p = i := by
        rw [← HSP.out]
        refine spTo_stop (fun g => hgo ⟨g.1, ?_⟩)
        have := g.2
        simpa [bBl] using this
      have HQ := Lib.hid hq
      clear hq
      have hiS : (i : Int) ≤ s.size := by omega
      have hi0 : (0 : Int) ≤ i := by omega
      have hb := get_bt s
      by_cases hlt : i < s.size
      · have hiI : (i : Int) < s.size := by omega
        have h32b : (bt s i == 32) = false := by simp; exact fun e => hgo ⟨hlt, e⟩
        clear hgo
        go_upto_region 1 with fail
        go_quiet (fail)
        have hkn := hk.bdrew nq
        have hOn := hO.drewN nq
        generalize wr.drewN nq = w8 at *
        clear hk hO c0 c1 f1
        have c0 := hkn.cell 0
        have c1 := hkn.cell 1
        simp at c0 c1
        go_upto_region 4 with fail
        go_quiet (fail)
        have hkn := hkn.bdrew nq
        have hOn := hOn.drewN nq
        generalize w8.drewN nq = w9 at *
        clear c0 c1
        have c2 := hkn.cell 2
        have f2 := hkn.free 2
        simp at c2
        have hRS : (s.extract i s.size).size = s.size - i := size_sub _ _ _ (Nat.le_refl _)
        have hBR : ∀ n, n < (s.extract i s.size).size → bt (s.extract i s.size) n = bt s (i + n) := fun n hn => bt_sub _ _ _ _ (by omega) (Nat.le_refl _)
        have hne := isEmpty_not (s.extract i s.size) (by omega)
        have hp1 := two_bytes s i 33 61 hlt
        have hp2 := two_bytes s i 46 46 hlt
        have hx1 := fun W => Tryz.strings_HasPrefix (s.extract i s.size) ⟨#[33, 61]⟩ W
        have hx2 := fun W => Tryz.strings_HasPrefix (s.extract i s.size) ⟨#[46, 46]⟩ W
        change ∀ W, Calls _ _ _ _ (fun e w' => e = .returned (.bool (Lib.hasPrefix (s.extract i s.size).data.toList [33, 61])) ∧ w' = W) at hx1
        change ∀ W, Calls _ _ _ _ (fun e w' => e = .returned (.bool (Lib.hasPrefix (s.extract i s.size).data.toList [46, 46])) ∧ w' = W) at hx2
        rw [hp1] at hx1
        rw [hp2] at hx2
        have hsubs := fun n h => sub_sub s i n h
        obtain ⟨R, hR⟩ : ∃ R, s.extract i s.size = R := ⟨_, rfl⟩
        rw [hR] at hRS hBR hne hx1 hx2 ⊢
        have HRE := Lib.hid hR
        have HRS := Lib.hid hRS
        have HBR := Lib.hid hBR
        have HX1 := Lib.hid hx1
        have HX2 := Lib.hid hx2
        have hR0 : (0 : Int) < R.size := by omega
        have hb0 : bt R 0 = bt s i := hBR 0 (by omega)
        have htk : tkN s i = if ¬ i < s.size ∨ bt s i = 64 then 0 else if bDg (bt s i) = true then spTo bDg s i - i else if bLo (bt s i) = true then spTo bLo s i - i else if i + 1 < s.size ∧ ((bt s i = 33 ∧ bt s (i + 1) = 61) ∨ (bt s i = 46 ∧ bt s (i + 1) = 46)) then 2 else 1 := rfl
        have hbR := get_bt R
        have hsub0 := sub_sub s i 0 (by omega)
        rw [hR] at hsub0
        have hlt1 := hlt
        have hRm : R.size ≤ 1000000 := by rw [HRS.out]; omega
        clear hp1 hp2 hx1 hx2 hR hRS hBR hsubs hlt hb
        by_cases h64 : bt s i = 64
        · have h64b : (bt R 0 == 64) = true := by rw [hb0]; simp [h64]
          have hex : tkN s i = 0 := tkN_zero.2 (.inr h64)
          have HEX := Lib.hid hex
          have HSUB := Lib.hid hsub0
          clear h64 hex htk hsub0 hb0
          go_wp2_with fail
          go_end0
          obtain ⟨h1, h2⟩ := sc_fin0 hkn hOn HQ.out HEX.out hi
          exact ⟨rfl, h1, h2⟩
        · have h64b : (bt R 0 == 64) = false := by rw [hb0]; simp [h64]
          rw [if_neg (by omega)] at htk
          cases hdg : bDg (bt s i) with
          | true =>
            rw [if_pos hdg] at htk
            have HTK := Lib.hid htk
            have hda := digit_any (bt R 0) w9
            rw [hb0, hdg] at hda
            rw [← hb0] at hda
            clear h64 htk hdg hsub0 hb0
            go_wp2_with fail
            refine hda.mono ?_
            rintro e w' ⟨rfl, rfl⟩
            go_wp2_with fail
            go_loopg [2] R.size (fun g s2 wr => ∃ n : Nat, s2 = .int .i64 (n : Int) ∧ n + g = R.size ∧ spTo bDg s (i + n) = spTo bDg s i ∧ wr = w9)
            case atStart => exact ⟨0, rfl, by omega, rfl, rfl⟩
            case round =>
              obtain ⟨n, rfl, hg, hsn, rfl⟩ := hrel
              have hn0 : (0 : Int) ≤ n := by omega
              have HSN := Lib.hid hsn
              clear hsn
              by_cases hlt : n < R.size
              · have hnI : (n : Int) < R.size := by omega
                have hbn := HBR.out n hlt
                cases hd : bDg (bt R n) with
                | true =>
                  have hnx : spTo bDg s (i + (n + 1)) = spTo bDg s i := by rw [← HSN.out, spTo_go (i := i + n) (by have := HRS.out; omega) (by rw [← hbn]; exact hd)]; rfl
                  have HNX := Lib.hid hnx
                  have hda := digit_any (bt R n) wr
                  rw [hd] at hda
                  clear hnx hd hbn
                  go_wp2_with fail
                  refine hda.mono ?_
                  rintro e w' ⟨rfl, rfl⟩
                  go_wp2_with fail
                  go_roundg (gk - 1)
                  case rel => exact ⟨n + 1, by push_cast; rfl, by omega, HNX.out, rfl⟩
                  case measure => omega
                | false =>
                  have hex : tkN s i = n := by
                    rw [HTK.out, ← HSN.out, spTo_stop (fun g => by rw [← hbn, hd] at g; cases g.2)]
                    omega
                  have HEX := Lib.hid hex
                  have hsub := sub_sub s i n (by have := HRS.out; omega)
                  rw [HRE.out] at hsub
                  have HSUB := Lib.hid hsub
                  have hda := digit_any (bt R n) wr
                  rw [hd] at hda
                  have hnS : (n : Int) ≤ R.size := by omega
                  clear hex hd hbn hsub
                  go_wp2_with fail
                  refine hda.mono ?_
                  rintro e w' ⟨rfl, rfl⟩
                  go_wp2_with fail
                  go_end0
                  obtain ⟨h1, h2⟩ := sc_fin hkn hOn HQ.out HEX.out HSUB.out
                  exact ⟨rfl, h1, h2⟩
              · have hnI : ¬ (n : Int) < R.size := by omega
                have hex : tkN s i = n := by
                  rw [HTK.out, ← HSN.out, spTo_stop (fun g => by have := HRS.out; omega)]
                  omega
                have HEX := Lib.hid hex
                have hsub := sub_sub s i n (by have := HRS.out; omega)
                rw [HRE.out] at hsub
                have HSUB := Lib.hid hsub
                have hnS : (n : Int) ≤ R.size := by omega
                clear hex hsub
                go_wp2_with fail
                go_end0
                obtain ⟨h1, h2⟩ := sc_fin hkn hOn HQ.out HEX.out HSUB.out
                exact ⟨rfl, h1, h2⟩
          | false =>
            rw [if_neg (by rw [hdg]; decide)] at htk
            have hda := digit_any (bt R 0) w9
            rw [hb0, hdg] at hda
            rw [← hb0] at hda
            cases hlo : bLo (bt s i) with
            | true =>
              rw [if_pos hlo] at htk
              have HTK := Lib.hid htk
              have hla := letter_any (bt R 0) w9
              rw [hb0, hlo] at hla
              rw [← hb0] at hla
              clear h64 htk hdg hlo hsub0 hb0
              go_wp2_with fail
              refine hda.mono ?_
              rintro e w' ⟨rfl, rfl⟩
              go_wp2_with fail
              refine hla.mono ?_
              rintro e w' ⟨rfl, rfl⟩
              go_wp2_with fail
              go_loopg [2] R.size (fun g s2 wr => ∃ n : Nat, s2 = .int .i64 (n : Int) ∧ n + g = R.size ∧ spTo bLo s (i + n) = spTo bLo s i ∧ wr = w9)
              case atStart => exact ⟨0, rfl, by omega, rfl, rfl⟩
              case round =>
                obtain ⟨n, rfl, hg, hsn, rfl⟩ := hrel
                have hn0 : (0 : Int) ≤ n := by omega
                have HSN := Lib.hid hsn
                clear hsn
                by_cases hlt : n < R.size
                · have hnI : (n : Int) < R.size := by omega
                  have hbn := HBR.out n hlt
                  cases hd : bLo (bt R n) with
                  | true =>
                    have hnx : spTo bLo s (i + (n + 1)) = spTo bLo s i := by rw [← HSN.out, spTo_go (i := i + n) (by have := HRS.out; omega) (by rw [← hbn]; exact hd)]; rfl
                    have HNX := Lib.hid hnx
                    have hda := letter_any (bt R n) wr
                    rw [hd] at hda
                    clear hnx hd hbn
                    go_wp2_with fail
                    refine hda.mono ?_
                    rintro e w' ⟨rfl, rfl⟩
                    go_wp2_with fail
                    go_roundg (gk - 1)
                    case rel => exact ⟨n + 1, by push_cast; rfl, by omega, HNX.out, rfl⟩
                    case measure => omega
                  | false =>
                    have hex : tkN s i = n := by
                      rw [HTK.out, ← HSN.out, spTo_stop (fun g => by rw [← hbn, hd] at g; cases g.2)]
                      omega
                    have HEX := Lib.hid hex
                    have hsub := sub_sub s i n (by have := HRS.out; omega)
                    rw [HRE.out] at hsub
                    have HSUB := Lib.hid hsub
                    have hda := letter_any (bt R n) wr
                    rw [hd] at hda
                    have hnS : (n : Int) ≤ R.size := by omega
                    clear hex hd hbn hsub
                    go_wp2_with fail
                    refine hda.mono ?_
                    rintro e w' ⟨rfl, rfl⟩
                    go_wp2_with fail
                    go_end0
                    obtain ⟨h1, h2⟩ := sc_fin hkn hOn HQ.out HEX.out HSUB.out
                    exact ⟨rfl, h1, h2⟩
                · have hnI : ¬ (n : Int) < R.size := by omega
                  have hex : tkN s i = n := by
                    rw [HTK.out, ← HSN.out, spTo_stop (fun g => by have := HRS.out; omega)]
                    omega
                  have HEX := Lib.hid hex
                  have hsub := sub_sub s i n (by have := HRS.out; omega)
                  rw [HRE.out] at hsub
                  have HSUB := Lib.hid hsub
                  have hnS : (n : Int) ≤ R.size := by omega
                  clear hex hsub
                  go_wp2_with fail
                  go_end0
                  obtain ⟨h1, h2⟩ := sc_fin hkn hOn HQ.out HEX.out HSUB.out
                  exact ⟨rfl, h1, h2⟩
            | false =>
              rw [if_neg (by rw [hlo]; decide)] at htk
              have hla := letter_any (bt R 0) w9
              rw [hb0, hlo] at hla
              rw [← hb0] at hla
              have hx1 := HX1.out w9
              have hx2 := HX2.out w9
              by_cases hA : i + 1 < s.size ∧ bt s i = ((33 : UInt8).toNat : Int) ∧ bt s (i + 1) = ((61 : UInt8).toNat : Int)
              · rw [decide_eq_true hA] at hx1
                have hx1 : Calls Tryz.prog 63 #[.string R, .string ⟨#[33, 61]⟩] w9 fun e w' => e = .returned (.bool true) ∧ w9 = w' := hx1.mono fun e w' h => ⟨h.1, h.2.symm⟩
                have hex : tkN s i = 2 := by rw [htk]; exact if_pos ⟨hA.1, .inl hA.2⟩
                have HEX := Lib.hid hex
                have hsub := sub_sub s i 2 (by have := hA.1; omega)
                rw [HRE.out] at hsub
                have HSUB := Lib.hid hsub
                have hnS : (2 : Int) ≤ R.size := by have := HRS.out; omega
                clear hex hsub htk hdg hlo hsub0 hb0 h64 hA hx2
                go_wp2_with fail
                refine hda.mono ?_
                rintro e w' ⟨rfl, rfl⟩
                go_wp2_with fail
                refine hla.mono ?_
                rintro e w' ⟨rfl, rfl⟩
                go_wp2_with fail
                refine hx1.mono ?_
                rintro e w' ⟨rfl, rfl⟩
                go_wp2_with fail
                go_end0
                obtain ⟨h1, h2⟩ := sc_fin hkn hOn HQ.out HEX.out HSUB.out
                exact ⟨rfl, h1, h2⟩
              · rw [decide_eq_false hA] at hx1
                have hx1 : Calls Tryz.prog 63 #[.string R, .string ⟨#[33, 61]⟩] w9 fun e w' => e = .returned (.bool false) ∧ w9 = w' := hx1.mono fun e w' h => ⟨h.1, h.2.symm⟩
                by_cases hB : i + 1 < s.size ∧ bt s i = ((46 : UInt8).toNat : Int) ∧ bt s (i + 1) = ((46 : UInt8).toNat : Int)
                · rw [decide_eq_true hB] at hx2
                  have hx2 : Calls Tryz.prog 63 #[.string R, .string ⟨#[46, 46]⟩] w9 fun e w' => e = .returned (.bool true) ∧ w9 = w' := hx2.mono fun e w' h => ⟨h.1, h.2.symm⟩
                  have hex : tkN s i = 2 := by rw [htk]; exact if_pos ⟨hB.1, .inr hB.2⟩
                  have HEX := Lib.hid hex
                  have hsub := sub_sub s i 2 (by have := hB.1; omega)
                  rw [HRE.out] at hsub
                  have HSUB := Lib.hid hsub
                  have hnS : (2 : Int) ≤ R.size := by have := HRS.out; omega
                  clear hex hsub htk hdg hlo hsub0 hb0 h64 hA hB
                  go_wp2_with fail
                  refine hda.mono ?_
                  rintro e w' ⟨rfl, rfl⟩
                  go_wp2_with fail
                  refine hla.mono ?_
                  rintro e w' ⟨rfl, rfl⟩
                  go_wp2_with fail
                  refine hx1.mono ?_
                  rintro e w' ⟨rfl, rfl⟩
                  go_wp2_with fail
                  refine hx2.mono ?_
                  rintro e w' ⟨rfl, rfl⟩
                  go_wp2_with fail
                  go_end0
                  obtain ⟨h1, h2⟩ := sc_fin hkn hOn HQ.out HEX.out HSUB.out
                  exact ⟨rfl, h1, h2⟩
                · rw [decide_eq_false hB] at hx2
                  have hx2 : Calls Tryz.prog 63 #[.string R, .string ⟨#[46, 46]⟩] w9 fun e w' => e = .returned (.bool false) ∧ w9 = w' := hx2.mono fun e w' h => ⟨h.1, h.2.symm⟩
                  have hex : tkN s i = 1 := by rw [htk]; exact if_neg (fun g => g.2.elim (fun q => hA ⟨g.1, q⟩) (fun q => hB ⟨g.1, q⟩))
                  have HEX := Lib.hid hex
                  have hsub := sub_sub s i 1 (by omega)
                  rw [HRE.out] at hsub
                  have HSUB := Lib.hid hsub
                  have hnS : (1 : Int) ≤ R.size := by have := HRS.out; omega
                  clear hex hsub htk hdg hlo hsub0 hb0 h64 hA hB
                  go_wp2_with fail
                  refine hda.mono ?_
                  rintro e w' ⟨rfl, rfl⟩
                  go_wp2_with fail
                  refine hla.mono ?_
                  rintro e w' ⟨rfl, rfl⟩
                  go_wp2_with fail
                  refine hx1.mono ?_
                  rintro e w' ⟨rfl, rfl⟩
                  go_wp2_with fail
                  refine hx2.mono ?_
                  rintro e w' ⟨rfl, rfl⟩
                  go_wp2_with fail
                  go_end0
                  obtain ⟨h1, h2⟩ := sc_fin hkn hOn HQ.out HEX.out HSUB.out
                  exact ⟨rfl, h1, h2⟩
      · have hiI : ¬ (i : Int) < s.size := by omega
        have hie : i = s.size := by omega
        have hRz : (s.extract i s.size).size = 0 := by rw [size_sub _ _ _ (Nat.le_refl _)]; omega
        have hte := isEmpty_of _ hRz
        have hsub := sub_sub s i 0 (by omega)
        have hn0 : tkN s i = 0 := tkN_zero.2 (.inl hlt)
        have HR := Lib.hid hsub
        have HN := Lib.hid hn0
        clear hgo hRz hie hlt hsub hn0
        go_upto_region 1 with fail
        go_quiet (fail)
        have hkn := hk.bdrew nq
        have hOn := hO.drewN nq
        generalize wr.drewN nq = w8 at *
        clear hk hO c0 c1 f1
        have c0 := hkn.cell 0
        have c1 := hkn.cell 1
        simp at c0 c1
        go_upto_region 4 with fail
        go_quiet (fail)
        have hkn := hkn.bdrew nq
        have hOn := hOn.drewN nq
        generalize w8.drewN nq = w9 at *
        clear c0 c1
        have c2 := hkn.cell 2
        have f2 := hkn.free 2
        simp at c2
        generalize s.extract i s.size = R at *
        go_wp2_with fail
        go_end0
        obtain ⟨h1, h2⟩ := sc_fin0 hkn hOn HQ.out HN.out hi
        exact ⟨rfl, h1, h2⟩
end Go.Proofs.YtgbemhehbhlgpaaGreatDoor
