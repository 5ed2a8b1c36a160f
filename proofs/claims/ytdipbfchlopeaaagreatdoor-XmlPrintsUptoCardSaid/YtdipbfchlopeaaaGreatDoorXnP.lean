/-
  A part of XML, plain: how a dressed file writes its runes.
  The laws' digits and dressed: what they write.
  How a law is told to dress a file: an argument, opened.
-/
import Derived.Test.YtdipbfchlopeaaaGreatDoorXnL
import Derived.Test.YtdipbfchlopeaaaGreatDoorXnM
import Derived.Test.YtdipbfchlopeaaaGreatDoorXnN
import Derived.Test.YtdipbfchlopeaaaGreatDoorXnK
import Derived.Lib.SmallJoins
import Derived.Deep.Strs
namespace Go.Proofs.YtdipbfchlopeaaaGreatDoor
section
open Go.RowKit Go.PlainAid

/-- A number's digits. -/
def decF : Nat → Nat → List UInt8 → List UInt8
  | 0, _, acc => acc
  | f + 1, n, acc => if n = 0 then acc else decF f (n / 10) (UInt8.ofNat (48 + n % 10) :: acc)
def decD (n : Nat) : List UInt8 := decF 20 n []
def Digs (l : List UInt8) : Prop := ∀ c ∈ l, 48 ≤ c.toNat ∧ c.toNat ≤ 57
def valD (x : Int) (l : List UInt8) : Int := l.foldl (fun x c => x * 10 + ((c.toNat : Int) - 48)) x
theorem dig_nat {n : Nat} (h : n < 10) : (UInt8.ofNat (48 + n)).toNat = 48 + n := by
  rw [UInt8.toNat_ofNat']; omega
theorem decF_is : ∀ (f n k : Nat) (acc : List UInt8), Digs acc → n < 10 ^ f → n < 10 ^ k → Digs (decF f n acc) ∧ valD 0 (decF f n acc) = valD (n : Int) acc ∧ (decF f n acc).length ≤ acc.length + k ∧ (acc.length ≤ (decF f n acc).length ∧ (n ≠ 0 → acc.length < (decF f n acc).length))
  | 0, n, k, acc, h, hn, _ => by
    have : n = 0 := by simpa using hn
    subst this
    exact ⟨h, rfl, by simp [decF], by simp [decF], fun h => absurd rfl h⟩
  | f + 1, n, k, acc, h, hn, hk => by
    unfold decF
    split
    · rename_i h0
      subst h0
      exact ⟨h, rfl, by omega, by omega, fun h => absurd rfl h⟩
    · rename_i h0
      obtain ⟨k, rfl⟩ : ∃ j, k = j + 1 := ⟨k - 1, by
        cases k with
        | zero => simp at hk; omega
        | succ k => rfl⟩
      rw [Nat.pow_succ] at hn hk
      have hd := dig_nat (show n % 10 < 10 by omega)
      obtain ⟨i1, i2, i3, i4, _⟩ := decF_is f (n / 10) k (UInt8.ofNat (48 + n % 10) :: acc) (fun c hc => by
        rcases List.mem_cons.1 hc with rfl | hc
        · rw [hd]; omega
        · exact h c hc) (by omega) (by omega)
      refine ⟨i1, ?_, by simp only [List.length_cons] at i3; omega, by simp only [List.length_cons] at i4; omega, fun _ => by simp only [List.length_cons] at i4; omega⟩
      rw [i2]
      show valD (((n / 10 : Nat) : Int) * 10 + (((UInt8.ofNat (48 + n % 10)).toNat : Int) - 48)) acc = valD (n : Int) acc
      rw [hd]
      congr 1
      omega
theorem decD_is {n : Nat} (h : n < 10000000) : Digs (decD n) ∧ valD 0 (decD n) = n ∧ (decD n).length ≤ 7 ∧ (n ≠ 0 → (decD n).length ≠ 0) := by
  obtain ⟨h1, h2, h3, _, h4⟩ := decF_is 20 n 7 [] (fun c hc => absurd hc (by simp)) (by omega) (by omega)
  exact ⟨h1, h2, by unfold decD; simpa using h3, fun h0 => by have := h4 h0; unfold decD; simp only [List.length_nil] at this; omega⟩
theorem numF_run {d : ByteArray} : ∀ {l : List UInt8} {P : Nat} {x : Int}, At d P l → Digs l → numF d 10 l.length P x = some (valD x l)
  | [], _, _, _, _ => rfl
  | c :: l, P, x, hA, h => by
    have hc := h c (by simp)
    have hb := hA.head.2
    have hv : digV (bt d P) = (c.toNat : Int) - 48 := by
      rw [hb]; unfold digV
      rw [if_pos (by omega)]
    show (if digV (bt d P) < 10 then numF d 10 l.length (P + 1) (x * 10 + digV (bt d P)) else none) = _
    rw [if_pos (by rw [hv]; omega), numF_run hA.tail (fun y hy => h y (by simp [hy])), hv]
    rfl
theorem numX_dec {n : Nat} (h0 : n ≠ 0) (hr : rChar (n : Int) = true) : numX ⟨(decD n).toArray⟩ = some (n : Int) := by
  have hlt : n < 10000000 := by
    unfold rChar at hr
    simp only [decide_eq_true_eq] at hr
    omega
  obtain ⟨h1, h2, h3, h4⟩ := decD_is hlt
  have hA := At.self (decD n)
  have hsz : (⟨(decD n).toArray⟩ : ByteArray).size = (decD n).length := rfl
  unfold numX
  have hb : bt ⟨(decD n).toArray⟩ 0 ≠ 120 := by
    cases hd : decD n with
    | nil => rw [hd] at h4; exact absurd rfl (h4 h0)
    | cons c l =>
      rw [hd] at hA h1
      have := h1 c (by simp)
      rw [hA.head.2]; omega
  rw [if_neg hb]
  unfold numB
  rw [hsz, if_neg (by have := h4 h0; omega), numF_run hA h1, h2]
  simp only
  rw [if_pos hr]
theorem five_no {b : ByteArray} (h : b.data.toList.head? = some 35) : fiveX b = none := by
  have ne : ∀ c : ByteArray, c.data.toList.head? ≠ some 35 → b ≠ c := fun c hc e => hc (e ▸ h)
  unfold fiveX
  rw [if_neg (ne _ (by decide)), if_neg (ne _ (by decide)), if_neg (ne _ (by decide)), if_neg (ne _ (by decide)), if_neg (ne _ (by decide))]
/-- A reference that is a number. -/
theorem numref_at {t : ByteArray} {P : Nat} {ds : List UInt8} {r : Int} (h : At t P (38 :: 35 :: (ds ++ [59]))) (hn : ∀ c ∈ ds, c ≠ 59) (h5 : numX ⟨ds.toArray⟩ = some r) : refX t P = some (r, ds.length + 3) := by
  have h' : At t P (38 :: ((35 :: ds) ++ [59])) := h
  have hs := h'.size (by simp)
  have hP : P ≤ t.size := by omega
  have h1 : At (t.extract P t.size) 1 ((35 :: ds) ++ [59]) := h'.tail.rest hP
  have hsm : semi (t.extract P t.size) 1 = some (1 + (35 :: ds).length) := by
    unfold semi
    exact smF_at h1 (fun c hc => by
      rcases List.mem_cons.1 hc with rfl | hc
      · decide
      · exact hn c hc) (by rw [rest_size t P hP]; simp at hs ⊢; omega)
  have hex : (t.extract P t.size).extract 1 (1 + (35 :: ds).length) = ⟨(35 :: ds).toArray⟩ := h1.left.extract
  have hex2 : (t.extract P t.size).extract 2 (1 + (35 :: ds).length) = ⟨ds.toArray⟩ := by
    have h2 : At (t.extract P t.size) 2 ds := (show At (t.extract P t.size) 1 (35 :: (ds ++ [59])) from h1).tail.left
    rw [show 1 + (35 :: ds).length = 2 + ds.length by simp; omega]
    exact h2.extract
  have hb : bt (t.extract P t.size) 1 = 35 := (show At (t.extract P t.size) 1 (35 :: (ds ++ [59])) from h1).head.2
  unfold refX refT
  rw [hsm]
  simp only
  rw [hex, five_no rfl, hex2]
  simp only
  rw [if_pos hb, h5]
  simp only [List.length_cons]
  congr 2
  omega
theorem num_piece {ds : List UInt8} {r : Int} (hn : ∀ c ∈ ds, c ≠ 59 ∧ c.toNat < 128) (h5 : numX ⟨ds.toArray⟩ = some r) : Pc (38 :: 35 :: (ds ++ [59])) (Lib.encodeRune r) := by
  refine ⟨by simp, fun t P h => ?_, fun t P h => brk_ascii h (fun d hd => ?_)⟩
  · unfold pieceX
    rw [if_pos (by simpa using h.head.2), numref_at h (fun c hc => (hn c hc).1) h5]
    simp only [List.length_cons, List.length_append, List.length_nil]
    rfl
  · simp only [List.mem_cons, List.mem_append, List.not_mem_nil, or_false] at hd
    rcases hd with rfl | rfl | hd | rfl
    · decide
    · decide
    · exact (hn d hd).2
    · decide
theorem five_piece {name : List UInt8} {r : Int} (hn : ∀ d ∈ name, d ≠ 59) (ha : ∀ d ∈ name, d.toNat < 128) (h5 : fiveX ⟨name.toArray⟩ = some r) : Pc (38 :: (name ++ [59])) (Lib.encodeRune r) := by
  refine ⟨by simp, fun t P h => ?_, fun t P h => brk_ascii h (fun d hd => ?_)⟩
  · unfold pieceX
    rw [if_pos (by simpa using h.head.2), ref_at h hn h5]
    simp only [List.length_cons, List.length_append, List.length_nil]
    rfl
  · simp only [List.mem_cons, List.mem_append, List.not_mem_nil, or_false] at hd
    rcases hd with rfl | hd | rfl
    · decide
    · exact ha d hd
    · decide
theorem rune_piece {r : Int} (h : rChar r = true) (h38 : r ≠ 38) : Pc (Lib.encodeRune r) (Lib.encodeRune r) := by
  refine ⟨?_, fun t P hA => ?_, fun t P hA => ?_⟩
  · intro e
    have := (Lib.encodeRuneZ_length r).1
    have h2 : (Lib.encodeRune r).length = (Lib.encodeRuneZ r).length := by unfold Lib.encodeRune; rw [List.length_map]
    rw [e] at h2
    simp only [List.length_nil] at h2
    omega
  · obtain ⟨h1, h2, h3⟩ := enc_at h hA
    unfold pieceX
    rw [if_neg (fun e => by rw [ascii_rn (by omega)] at h2; omega), if_pos (by rw [h2]; exact h), h3, hA.extract]
  · obtain ⟨h1, h2, h3⟩ := enc_at h hA
    rw [brk_char h1 (by rw [h2]; exact rChar_pos h), h3]
theorem enc_bytes {r : Int} (h : rChar r = true) : (∃ c : UInt8, Lib.encodeRune r = [c] ∧ (c.toNat : Int) = r) ∨ ∀ c ∈ Lib.encodeRune r, 128 ≤ c.toNat := by
  unfold rChar at h
  simp only [decide_eq_true_eq] at h
  unfold Lib.encodeRune
  have big : ∀ x : Int, 128 ≤ x → x < 256 → 128 ≤ (x.toNat.toUInt8).toNat := fun x h1 h2 => by
    have := byte_of (x := x) (by omega) h2
    omega
  by_cases h1 : r ≤ 127
  · rw [Lib.encodeRuneZ_one (by omega) h1]
    exact .inl ⟨_, rfl, byte_of (by omega) (by omega)⟩
  right
  by_cases h2 : r ≤ 2047
  · rw [Lib.encodeRuneZ_two (by omega) h2]
    intro c hc
    simp only [List.map_cons, List.map_nil, List.mem_cons, List.not_mem_nil, or_false] at hc
    rcases hc with rfl | rfl <;> exact big _ (by omega) (by omega)
  by_cases h3 : r ≤ 65535
  · rw [Lib.encodeRuneZ_three (by omega)]
    intro c hc
    simp only [List.map_cons, List.map_nil, List.mem_cons, List.not_mem_nil, or_false] at hc
    rcases hc with rfl | rfl | rfl <;> exact big _ (by omega) (by omega)
  · rw [Lib.encodeRuneZ_four (by omega) (by omega)]
    intro c hc
    simp only [List.map_cons, List.map_nil, List.mem_cons, List.not_mem_nil, or_false] at hc
    rcases hc with rfl | rfl | rfl | rfl <;> exact big _ (by omega) (by omega)
/-- A rune as the laws' dressed writes it. -/
def encN (num : Bool) (r : Int) : List UInt8 :=
  if num = true ∧ 32 < r then 38 :: 35 :: (decD r.toNat ++ [59]) else if r = 60 then 38 :: ([108, 116] ++ [59]) else if r = 38 then 38 :: 35 :: ([120, 50, 54] ++ [59]) else if r = 34 then 38 :: ([113, 117, 111, 116] ++ [59]) else if r = 39 then 38 :: ([97, 112, 111, 115] ++ [59]) else if r = 62 then 38 :: ([103, 116] ++ [59]) else Lib.encodeRune r
theorem encN_pc (num : Bool) {r : Int} (h : rChar r = true) {q : UInt8} (hq : q = 34 ∨ q = 39) : Pc (encN num r) (Lib.encodeRune r) ∧ TameQ q (encN num r) := by
  have hlo : ∀ l : List UInt8, (∀ c ∈ l, c ≠ 60 ∧ c ≠ 62 ∧ c ≠ 34 ∧ c ≠ 39) → TameQ q l := fun l hl c hc => by
    obtain ⟨h1, h2, h3, h4⟩ := hl c hc
    refine ⟨h1, h2, ?_⟩
    rcases hq with rfl | rfl
    · exact h3
    · exact h4
  unfold encN
  split
  · rename_i hn
    obtain ⟨n, rfl⟩ := Int.eq_ofNat_of_zero_le (show 0 ≤ r by omega)
    have hlt : n < 10000000 := by
      unfold rChar at h
      simp only [decide_eq_true_eq] at h
      omega
    obtain ⟨d1, _⟩ := decD_is hlt
    refine ⟨num_piece (fun c hc => ?_) (numX_dec (by omega) h), hlo _ (fun c hc => ?_)⟩
    · have := d1 c hc
      refine ⟨?_, by omega⟩
      rintro rfl
      exact absurd this.2 (by decide)
    · simp only [List.mem_cons, List.mem_append, List.not_mem_nil, or_false] at hc
      rcases hc with rfl | rfl | hc | rfl
      · decide
      · decide
      · have := d1 c hc
        refine ⟨?_, ?_, ?_, ?_⟩ <;> (rintro rfl; revert this; decide)
      · decide
  split
  · rename_i e; subst e
    exact ⟨five_piece (by decide) (by decide) (by kernel_rfl), hlo _ (by decide)⟩
  split
  · rename_i e; subst e
    exact ⟨num_piece (by decide) (by kernel_rfl), hlo _ (by decide)⟩
  split
  · rename_i e; subst e
    exact ⟨five_piece (by decide) (by decide) (by kernel_rfl), hlo _ (by decide)⟩
  split
  · rename_i e; subst e
    exact ⟨five_piece (by decide) (by decide) (by kernel_rfl), hlo _ (by decide)⟩
  split
  · rename_i e; subst e
    exact ⟨five_piece (by decide) (by decide) (by kernel_rfl), hlo _ (by decide)⟩
  · rename_i n0 n1 n2 n3 n4 n5
    refine ⟨rune_piece h n2, hlo _ (fun c hc => ?_)⟩
    rcases enc_bytes h with ⟨x, hx, hr⟩ | hb
    · rw [hx] at hc
      rw [List.mem_singleton.1 hc]
      refine ⟨?_, ?_, ?_, ?_⟩ <;> (rintro rfl; simp at hr; omega)
    · have := hb c hc
      refine ⟨?_, ?_, ?_, ?_⟩ <;> (rintro rfl; revert this; decide)
/-- A text as the laws' dressed writes it. -/
def encA (num : Bool) (v : ByteArray) : List UInt8 := (runes v).flatMap (encN num)
theorem encA_pcs (num : Bool) {q : UInt8} (hq : q = 34 ∨ q = 39) {v : ByteArray} (hv : takenE v = 0) : Pcs q (encA num v) v.data.toList := by
  obtain ⟨h1, h2⟩ := runes_of hv
  refine ⟨(runes v).map fun r => (encN num r, Lib.encodeRune r), ?_, ?_, fun x hx => ?_⟩
  · show (((runes v).map fun r => (encN num r, Lib.encodeRune r)).map (fun x => x.1)).flatten = _
    rw [List.map_map]
    unfold encA
    rw [List.flatMap_def]
    rfl
  · show (((runes v).map fun r => (encN num r, Lib.encodeRune r)).map (fun x => x.2)).flatten = _
    rw [List.map_map, ← h2]
    unfold encL
    rw [List.flatMap_def]
    rfl
  · obtain ⟨r, hr, rfl⟩ := List.mem_map.1 hx
    exact encN_pc num (h1 r hr) hq
theorem drw_ok {q : UInt8} (hq : q = 34 ∨ q = 39) (num sh : Bool) {bl cm : List UInt8} (hbl : ∀ c ∈ bl, bBlank (c.toNat : Int) = true) (hcm : CmOk cm) (hn : cm ≠ []) : DrOk ⟨q, encA num, bl, cm, sh⟩ :=
  ⟨hq, fun _ hv => encA_pcs num hq hv, hbl, hcm, .inl hn⟩
end

section
open Go.RowKit Go.PlainAid

theorem decF_zero (f : Nat) (acc : List UInt8) : decF f 0 acc = acc := by cases f <;> rfl
theorem decF_step {f n : Nat} (h : n ≠ 0) (acc : List UInt8) : decF (f + 1) n acc = decF f (n / 10) (UInt8.ofNat (48 + n % 10) :: acc) := by
  show (if n = 0 then acc else _) = _
  rw [if_neg h]
theorem enc_ascii {r : Int} (h0 : 0 ≤ r) (h1 : r ≤ 127) : Lib.encodeRune r = [UInt8.ofNat r.toNat] := by
  unfold Lib.encodeRune
  rw [Lib.encodeRuneZ_one h0 h1]
  rfl
theorem enc_val {r : Int} (h : okRune r) : Utf8.encode r = encB r := by
  unfold okRune at h
  obtain ⟨c, rfl⟩ := Int.eq_ofNat_of_zero_le (show 0 ≤ r by omega)
  have hv : Utf8.valid ((c : Nat) : Int) = true := by
    unfold Utf8.valid
    simp
    omega
  unfold Utf8.encode encB Lib.encodeRune
  simp only [hv, if_true, Int.toNat_natCast]
  by_cases h1 : c < 128
  · rw [if_pos h1, Lib.encodeRuneZ_one (by omega) (by omega)]
    rfl
  · rw [if_neg h1]
    by_cases h2 : c < 2048
    · rw [if_pos h2, Lib.encodeRuneZ_two (by omega) (by omega)]
      simp only [List.map_cons, List.map_nil]
      rw [show ((192 + (c : Int) / 64).toNat) = 192 + c / 64 by omega, show ((128 + (c : Int) % 64).toNat) = 128 + c % 64 by omega]
    · rw [if_neg h2]
      by_cases h3 : c < 65536
      · rw [if_pos h3, Lib.encodeRuneZ_three (by omega)]
        simp only [List.map_cons, List.map_nil]
        rw [show ((224 + (c : Int) / 4096).toNat) = 224 + c / 4096 by omega, show ((128 + (c : Int) / 64 % 64).toNat) = 128 + c / 64 % 64 by omega, show ((128 + (c : Int) % 64).toNat) = 128 + c % 64 by omega]
      · rw [if_neg h3, Lib.encodeRuneZ_four (by omega) (by omega)]
        simp only [List.map_cons, List.map_nil]
        rw [show ((240 + (c : Int) / 262144).toNat) = 240 + c / 262144 by omega, show ((128 + (c : Int) / 4096 % 64).toNat) = 128 + c / 4096 % 64 by omega, show ((128 + (c : Int) / 64 % 64).toNat) = 128 + c / 64 % 64 by omega, show ((128 + (c : Int) % 64).toNat) = 128 + c % 64 by omega]
theorem enc_size {r : Int} (h : okRune r) : 1 ≤ (Utf8.encode r).size ∧ (Utf8.encode r).size ≤ 4 := by
  rw [enc_val h]
  show 1 ≤ (Lib.encodeRune r).length ∧ (Lib.encodeRune r).length ≤ 4
  unfold Lib.encodeRune
  rw [List.length_map]
  exact Lib.encodeRuneZ_length r
section
set_option maxRecDepth 100000
set_option maxHeartbeats 4000000
theorem digits_val (n : Nat) (hn0 : n ≠ 0) (hn : n ≤ 10000000) (w : World) : Calls Tryz.prog 48 #[.int .i64 (n : Int)] w fun e w' => e = .returned (.string ⟨(decD n).toArray⟩) ∧ w = w' := by
  obtain ⟨D, hD⟩ : ∃ x, decD n = x := ⟨_, rfl⟩
  have HD := Lib.hid hD
  have hlD : D.length ≤ 20 := by
    obtain ⟨_, _, h, _⟩ := decF_is 20 n 20 [] (fun c hc => absurd hc (by simp)) (by omega) (by omega)
    rw [← hD]; simpa [decD] using h
  rw [hD]
  clear hD
  go_enter Tryz.func48, Tryz.ntmps48
  go_wp2_with fail
  go_loopg [0, 3] 20 (fun f s0 s3 wx => ∃ (m : Nat) (t : ByteArray), s0 = .int .i64 (m : Int) ∧ s3 = .string t ∧ m ≤ 10000000 ∧ D = decF f m t.data.toList ∧ m < 10 ^ f ∧ t.size ≤ 20 ∧ (m = 0 → t.size ≠ 0) ∧ t.size + f = 20 ∧ w = wx)
  case atStart => exact ⟨n, ⟨#[]⟩, rfl, rfl, hn, HD.out.symm, by omega, by decide, fun e => absurd e hn0, rfl, rfl⟩
  case round =>
    obtain ⟨m, t, rfl, rfl, hm, hv, hlt, ht, hz, htg, rfl⟩ := hrel
    by_cases hm0 : m = 0
    · subst hm0
      have hne := bytes_ne (hz rfl)
      rw [decF_zero] at hv
      have hv2 : (⟨D.toArray⟩ : ByteArray) = t := by rw [hv]
      have HV := Lib.hid hv2
      clear hv hv2 hlt ht hm hz htg
      go_wp2_with fail
      go_ret
      exact ⟨by rw [HV.out]; rfl, rfl⟩
    · obtain ⟨k', hk'⟩ : ∃ k, gk = k + 1 := by
        cases hgk : gk with
        | zero => rw [hgk] at hlt; simp at hlt; omega
        | succ k => exact ⟨k, rfl⟩
      rw [hk', decF_step hm0] at hv
      have hlt2 : m / 10 < 10 ^ k' := by rw [hk', Nat.pow_succ] at hlt; omega
      have hmI : (0 : Int) < (m : Int) := by omega
      have hmod : (m : Int) % 10 = ((m % 10 : Nat) : Int) := by omega
      have hdiv : (m : Int) / 10 = ((m / 10 : Nat) : Int) := by omega
      have hes := enc_ascii (r := 48 + (m : Int) % 10) (by omega) (by omega)
      have hcv : Utf8.encode (48 + (m : Int) % 10) = ⟨#[UInt8.ofNat (48 + m % 10)]⟩ := by
        rw [enc_val (by unfold okRune; omega)]
        unfold encB
        rw [hes]
        have : (48 + (m : Int) % 10).toNat = 48 + m % 10 := by omega
        rw [this]
      have HH := Lib.hid (And.intro hv (And.intro hlt2 (And.intro hm (And.intro htg hk'))))
      have HCV := Lib.hid hcv; have HDIV := Lib.hid hdiv
      have hcat : ¬ (9223372036854775807 < 1 + t.size) := by omega
      have hes9 := enc_size (r := 48 + (m : Int) % 10) (by unfold okRune; omega)
      have hes2 := hes9.2
      have ht2 : t.size ≤ 80 := by omega
      clear hes9
      clear hv hlt hlt2 hz hk' hes hcv hmod hdiv htg
      go_wp2_with fail
      go_roundg k'
      case rel => exact ⟨m / 10, _, by rw [HDIV.out], rfl, by omega, by rw [HH.out.1, HCV.out, ByteArray.data_append, Array.toList_append]; rfl, HH.out.2.1, by rw [HCV.out, ByteArray.size_append]; have h1 : (⟨#[UInt8.ofNat (48 + m % 10)]⟩ : ByteArray).size = 1 := rfl; have := HH.out; omega, fun _ => by rw [HCV.out, ByteArray.size_append]; have h1 : (⟨#[UInt8.ofNat (48 + m % 10)]⟩ : ByteArray).size = 1 := rfl; omega, by rw [HCV.out, ByteArray.size_append]; have h1 : (⟨#[UInt8.ofNat (48 + m % 10)]⟩ : ByteArray).size = 1 := rfl; have := HH.out; omega, rfl⟩
      case measure => have := HH.out; omega
theorem encN_len (num : Bool) {r : Int} (h : rChar r = true) : (encN num r).length ≤ 10 := by
  unfold rChar at h
  simp only [decide_eq_true_eq] at h
  unfold encN
  split
  · obtain ⟨_, _, h1, _⟩ := decD_is (show r.toNat < 10000000 by omega)
    simp only [List.length_cons, List.length_append, List.length_nil]; omega
  split
  · decide
  split
  · decide
  split
  · decide
  split
  · decide
  split
  · decide
  · unfold Lib.encodeRune
    rw [List.length_map]
    have := (Lib.encodeRuneZ_length r).2
    omega
theorem encN_num {num : Bool} {r : Int} (h1 : num = true) (h2 : 32 < r) : encN num r = 38 :: 35 :: (decD r.toNat ++ [59]) := by unfold encN; rw [if_pos ⟨h1, h2⟩]
/-- One rune more of a text. -/
structure DrsR (v : ByteArray) (nu : Bool) (w1 : World) (f : Nat) (out : ByteArray) (wx : World) : Prop where
  ex : ∃ pos g : Nat, wx = w1.alloc (.stringIter v pos) ∧ f + pos = v.size + 1 ∧ pos ≤ v.size ∧ v.size < pos + g ∧ takenF v g pos = true ∧ ¬ 0 ≤ brk v pos ∧ encA nu v = out.data.toList ++ (runesF v g pos).flatMap (encN nu) ∧ out.size ≤ 10 * pos
theorem dressed_any (v bl cm : ByteArray) (ap nu sh : Bool) (hd : Int) (w : World) (hv : takenE v = 0) (hz : v.size ≤ 1048576) :
    Calls Tryz.prog 20 #[.string v, .agg #[.string bl, .string cm, .bool ap, .bool nu, .bool sh, .int .i64 hd]] w fun e w' => e = .returned (.string ⟨(encA nu v).toArray⟩) ∧ Below w.heap.size w w' := by
  have htx : takenF v (v.size + 1) 0 = true := takenE_X hv
  have hb0 : ¬ 0 ≤ brk v 0 := by rw [taken_brk (takenE_X hv)]; decide
  obtain ⟨db, hdb⟩ : ∃ b, w.heap.size = b := ⟨_, rfl⟩
  obtain ⟨w1, hw1⟩ : ∃ x, w.alloc (.cells #[.string bl, .string cm, .bool ap, .bool nu, .bool sh, .int .i64 hd] 43) = x := ⟨_, rfl⟩
  have hT1 : Blk w1 db #[.string bl, .string cm, .bool ap, .bool nu, .bool sh, .int .i64 hd] := by rw [← hw1, ← hdb]; exact Blk.new _ _ _
  have hB1 : Below w.heap.size w w1 := by rw [← hw1]; exact (Below.refl _ _).alloc (Nat.le_refl _) _
  have H0 := Lib.hid (show encA nu v = (⟨#[]⟩ : ByteArray).data.toList ++ (runesF v (v.size + 1) 0).flatMap (encN nu) from rfl)
  have HT := Lib.hid htx; have HB0 := Lib.hid hb0; have HW1 := Lib.hid hw1; have HT1 := Lib.hid hT1; have HB1 := Lib.hid hB1; have HDB := Lib.hid hdb
  clear hv htx hb0 hw1 hT1 hB1 hdb
  go_enter Tryz.func20, Tryz.ntmps20
  go_upto_region 0 with fail
  go_cut [3] (fun s3 wx => s3 = .pointer (some ⟨db, 0, none⟩) ∧ wx = w1)
  case first =>
    go_wp2_with fail
    go_meet
    case rel => exact ⟨by rw [HDB.out], HW1.out⟩
  case rest =>
  obtain ⟨rfl, rfl⟩ := hcut
  clear HW1
  go_wp2_with fail
  go_loopg [5] (v.size + 1) (fun f s5 wx => ∃ out : ByteArray, s5 = .string out ∧ DrsR v nu wc f out wx)
  case atStart => exact ⟨⟨#[]⟩, rfl, 0, v.size + 1, rfl, by omega, Nat.zero_le _, by omega, HT.out, by have := HB0.out; omega, H0.out, by decide⟩
  case round =>
    clear H0 HT HB0
    obtain ⟨out, rfl, pos, g, rfl, hg, hp, hgf, htk, hbk, hea, hos⟩ := hrel
    obtain ⟨g, rfl⟩ : ∃ k, g = k + 1 := ⟨g - 1, by omega⟩
    have HG := Lib.hid (And.intro hg (And.intro hgf hbk)); have HE := Lib.hid hea
    by_cases hlt : pos < v.size
    · have hnx := next_at (P := Tryz.prog) (b := wc.heap.size) rfl v pos hlt
      have hbs := brk_step v pos hlt
      have hr0 : ¬ rn v pos < 0 := fun h => HG.out.2.2 (by rw [hbs, if_pos h]; omega)
      have hrr := rn_right v pos hr0
      rw [← hrr] at hnx
      have hin := wd_in v pos hlt
      have hwp := wd_pos v pos hlt
      rw [if_neg hr0] at hbs
      have hbk2 : ¬ 0 ≤ brk v (pos + wd v pos) := by rw [← hbs]; exact HG.out.2.2
      have hc : rChar (rn v pos) = true := by
        unfold takenF at htk
        rw [if_neg (by omega)] at htk
        split at htk
        · assumption
        · cases htk
      have htk2 : takenF v g (pos + wd v pos) = true := by rw [takenF_go hlt hc] at htk; exact htk
      have hrs : runesF v (g + 1) pos = rn v pos :: runesF v g (pos + wd v pos) := by
        show (if v.size ≤ pos then [] else _) = _
        rw [if_neg (by omega)]
      obtain ⟨r, hr⟩ : ∃ r, rn v pos = r := ⟨_, rfl⟩
      rw [hr] at hnx hc hrs hr0
      have hlen := encN_len nu hc
      have HNEXT := Lib.hid (fun (piece : ByteArray) (hpc : piece.data.toList = encN nu r) => (show DrsR v nu wc (v.size + 1 - (pos + wd v pos)) (out ++ piece) (wc.alloc (.stringIter v (pos + wd v pos))) from
        ⟨pos + wd v pos, g, rfl, by omega, hin, by have := HG.out; omega, htk2, hbk2, by rw [HE.out, hrs, List.flatMap_cons, ByteArray.data_append, Array.toList_append, hpc, List.append_assoc], by
          rw [ByteArray.size_append]
          have h1 := size_list piece
          rw [hpc] at h1
          omega⟩))
      have hosz : out.size ≤ 10485760 := by omega
      have hrb : 0 ≤ r ∧ r ≤ 1114111 := by
        unfold rChar at hc
        simp only [decide_eq_true_eq] at hc
        omega
      obtain ⟨hra, hrb⟩ := hrb
      have b3 : (wc.alloc (.stringIter v (pos + wd v pos))).cell? ⟨db, 3, none⟩ = some (.bool nu) := (HT1.out.alloc _).cell 3
      have HC := Lib.hid hc; have HM := Lib.hid (And.intro hin (And.intro hwp hlt))
      clear hbs hr0 hrr hin hwp hbk2 htk2 hrs hr hlen hc hg hgf hbk hea htk hos hlt
      have hes := enc_size (r := r) (by have := HC.out; unfold rChar at this; simp only [decide_eq_true_eq] at this; unfold okRune; omega)
      have hev := enc_val (r := r) (by have := HC.out; unfold rChar at this; simp only [decide_eq_true_eq] at this; unfold okRune; omega)
      have HEV := Lib.hid hev
      have hes2 := hes.2
      have hcat : ¬ (9223372036854775807 < out.size + (Utf8.encode r).size) := by omega
      have hc4 : ¬ (9223372036854775807 < out.size + 4) := by omega
      have hc5 : ¬ (9223372036854775807 < out.size + 5) := by omega
      have hc6 : ¬ (9223372036854775807 < out.size + 6) := by omega
      clear hes hev
      cases nu with
      | true =>
        by_cases h32 : 32 < r
        · have hdg : ∀ W, Calls Tryz.prog 48 #[.int .i64 r] W fun e w' => e = .returned (.string ⟨(decD r.toNat).toArray⟩) ∧ W = w' := fun W => by
            have h := digits_val r.toNat (by omega) (by omega) W
            rw [Int.toNat_of_nonneg hra] at h
            exact h
          have hds7 := (decD_is (show r.toNat < 10000000 by omega)).2.2.1
          obtain ⟨ds, hds⟩ : ∃ x, (⟨(decD r.toNat).toArray⟩ : ByteArray) = x := ⟨_, rfl⟩
          have hdsz : ds.size ≤ 7 := by rw [← hds]; exact hds7
          rw [hds] at hdg
          have hd1 : ¬ (9223372036854775807 < 2 + ds.size) := by omega
          have hd2 : ¬ (9223372036854775807 < 2 + ds.size + 1) := by omega
          have hd3 : ¬ (9223372036854775807 < out.size + (2 + ds.size + 1)) := by omega
          have HN := Lib.hid (show (⟨#[38, 35]⟩ ++ ds ++ ⟨#[59]⟩ : ByteArray).data.toList = encN true r from by
            rw [encN_num rfl h32, ← hds, ByteArray.data_append, ByteArray.data_append, Array.toList_append, Array.toList_append]
            simp)
          clear hds hds7
          go_wp2_with fail
          refine (hdg _).mono ?_
          rintro e w' ⟨rfl, rfl⟩
          go_wp2_with fail
          go_roundg (v.size + 1 - (pos + wd v pos))
          case rel => exact ⟨_, rfl, HNEXT.out _ (HN.out)⟩
          case measure => have := HM.out; have := HG.out; omega
        · have n60 : ¬ r = 60 := by omega
          have n38 : ¬ r = 38 := by omega
          have n34 : ¬ r = 34 := by omega
          have n39 : ¬ r = 39 := by omega
          have n62 : ¬ r = 62 := by omega
          have k60 : (r == 60) = false := by simpa using n60
          have k38 : (r == 38) = false := by simpa using n38
          have k34 : (r == 34) = false := by simpa using n34
          have k39 : (r == 39) = false := by simpa using n39
          have k62 : (r == 62) = false := by simpa using n62
          have HN := Lib.hid (show encN true r = Lib.encodeRune r from by unfold encN; rw [if_neg (fun h => h32 h.2), if_neg n60, if_neg n38, if_neg n34, if_neg n39, if_neg n62])
          have d32 : decide (32 < r) = false := decide_eq_false h32
          go_wp2_with fail
          go_roundg (v.size + 1 - (pos + wd v pos))
          case rel => exact ⟨_, rfl, HNEXT.out _ (by rw [HEV.out, HN.out]; rfl)⟩
          case measure => have := HM.out; have := HG.out; omega
      | false =>
        by_cases n60 : r = 60
        · subst n60
          clear hcat hes2
          go_wp2_with fail
          go_roundg (v.size + 1 - (pos + wd v pos))
          case rel => exact ⟨_, rfl, HNEXT.out ⟨#[38, 108, 116, 59]⟩ (by kernel_rfl)⟩
          case measure => have := HM.out; have := HG.out; omega
        by_cases n38 : r = 38
        · subst n38
          clear hcat hes2
          go_wp2_with fail
          go_roundg (v.size + 1 - (pos + wd v pos))
          case rel => exact ⟨_, rfl, HNEXT.out ⟨#[38, 35, 120, 50, 54, 59]⟩ (by kernel_rfl)⟩
          case measure => have := HM.out; have := HG.out; omega
        by_cases n34 : r = 34
        · subst n34
          clear hcat hes2
          go_wp2_with fail
          go_roundg (v.size + 1 - (pos + wd v pos))
          case rel => exact ⟨_, rfl, HNEXT.out ⟨#[38, 113, 117, 111, 116, 59]⟩ (by kernel_rfl)⟩
          case measure => have := HM.out; have := HG.out; omega
        by_cases n39 : r = 39
        · subst n39
          clear hcat hes2
          go_wp2_with fail
          go_roundg (v.size + 1 - (pos + wd v pos))
          case rel => exact ⟨_, rfl, HNEXT.out ⟨#[38, 97, 112, 111, 115, 59]⟩ (by kernel_rfl)⟩
          case measure => have := HM.out; have := HG.out; omega
        by_cases n62 : r = 62
        · subst n62
          clear hcat hes2
          go_wp2_with fail
          go_roundg (v.size + 1 - (pos + wd v pos))
          case rel => exact ⟨_, rfl, HNEXT.out ⟨#[38, 103, 116, 59]⟩ (by kernel_rfl)⟩
          case measure => have := HM.out; have := HG.out; omega
        have k60 : (r == 60) = false := by simpa using n60
        have k38 : (r == 38) = false := by simpa using n38
        have k34 : (r == 34) = false := by simpa using n34
        have k39 : (r == 39) = false := by simpa using n39
        have k62 : (r == 62) = false := by simpa using n62
        have HN := Lib.hid (show encN false r = Lib.encodeRune r from by unfold encN; rw [if_neg (fun h => by cases h.1), if_neg n60, if_neg n38, if_neg n34, if_neg n39, if_neg n62])
        go_wp2_with fail
        go_roundg (v.size + 1 - (pos + wd v pos))
        case rel => exact ⟨_, rfl, HNEXT.out _ (by rw [HEV.out, HN.out]; rfl)⟩
        case measure => have := HM.out; have := HG.out; omega
    · have hnx := next_end (P := Tryz.prog) (b := wc.heap.size) rfl v pos hlt
      have hrs : runesF v (g + 1) pos = [] := by
        show (if v.size ≤ pos then [] else _) = _
        rw [if_pos (by omega)]
      have HV := Lib.hid (show (⟨(encA nu v).toArray⟩ : ByteArray) = out from by rw [HE.out, hrs]; simp)
      clear hlt hrs htk hos hg hgf hbk hea hp
      go_wp2_with fail
      first | go_ret | go_returns
      exact ⟨by rw [HV.out]; rfl, HB1.out.trans (((Below.refl _ _).alloc (Nat.le_refl _) _).mono HB1.out.size)⟩
end
end

section
open Go.RowKit Go.Joins Go.ChangeShapes Go.WideShapes Go.Deep Go.Lib

theorem array6 {α : Type} {cs : Array α} (h : cs.size = 6) : ∃ c0 c1 c2 c3 c4 c5, cs = #[c0, c1, c2, c3, c4, c5] := by
  obtain ⟨l⟩ := cs
  match l, h with
  | [c0, c1, c2, c3, c4, c5], _ => exact ⟨c0, c1, c2, c3, c4, c5, rfl⟩
section
variable {H : Type} {enc : TypeId × Value → H} {W : World} {base : Nat} {held : Bool}
theorem trod_struct6 {P : Program} {sp : Nat → Bool} {t : TypeId} {f0 f1 f2 f3 f4 f5 : Field} {fuel : Nat} {cs : List Value} {x : DataW H × List MemPlace} (ht : P.underlying t = some (.struct #[f0, f1, f2, f3, f4, f5])) (h : DataW.trod enc P W base sp held fuel t cs = some x) :
    ∃ y0 y1 y2 y3 y4 y5 n, x.1 = .agg [y0.1, y1.1, y2.1, y3.1, y4.1, y5.1] ∧ DataW.trod enc P W base sp held n f0.type ((cs.drop f0.offset).take (P.cellsOf f0.type)) = some y0 ∧
      DataW.trod enc P W base sp held n f1.type ((cs.drop f1.offset).take (P.cellsOf f1.type)) = some y1 ∧ DataW.trod enc P W base sp held n f2.type ((cs.drop f2.offset).take (P.cellsOf f2.type)) = some y2 ∧
      DataW.trod enc P W base sp held n f3.type ((cs.drop f3.offset).take (P.cellsOf f3.type)) = some y3 ∧ DataW.trod enc P W base sp held n f4.type ((cs.drop f4.offset).take (P.cellsOf f4.type)) = some y4 ∧
      DataW.trod enc P W base sp held n f5.type ((cs.drop f5.offset).take (P.cellsOf f5.type)) = some y5 := by
  obtain ⟨xs, n, _, rfl, hl, hlen, hf⟩ := DataW.trod_struct ht h
  match xs, hlen with
  | [y0, y1, y2, y3, y4, y5], _ => exact ⟨y0, y1, y2, y3, y4, y5, n, by simp, by simpa using hf 0 f0 rfl, by simpa using hf 1 f1 rfl, by simpa using hf 2 f2 rfl, by simpa using hf 3 f3 rfl, by simpa using hf 4 f4 rfl, by simpa using hf 5 f5 rfl⟩
set_option maxRecDepth 100000 in
theorem open_dress {b0 : Nat} {v : Value} {d : DataW H} {p : List MemPlace} (hv : Value.okWide Tryz.prog W .any b0 43 v) (h : DataW.Trod enc Tryz.prog W base (fun _ => true) held 43 v d p) (hw : Rows.uptoBulk d ≤ 1048576) :
    ∃ (db dc : ByteArray) (ap nu sh : Bool) (hd : Int), v = .agg #[.string db, .string dc, .bool ap, .bool nu, .bool sh, .int .i64 hd] ∧ db.size ≤ 1048576 ∧ dc.size ≤ 1048576 ∧ -9223372036854775808 ≤ hd ∧ hd ≤ 9223372036854775807 := by
  obtain ⟨cs, rfl, hsz⟩ := okWide_struct Tryz.underlying43 hv
  obtain ⟨v0, v1, v2, v3, v4, v5, rfl⟩ := array6 (hsz.trans (show Tryz.prog.cellsOf 43 = 6 by kernel_rfl))
  obtain ⟨fuel, hf⟩ := h
  obtain ⟨y0, y1, y2, y3, y4, y5, n, hy, t0, t1, t2, t3, t4, t5⟩ := trod_struct6 Tryz.underlying43 hf
  have hcs : (Value.agg #[v0, v1, v2, v3, v4, v5]).cells.toList = [v0, v1, v2, v3, v4, v5] := rfl
  rw [hcs] at t0 t1 t2 t3 t4 t5
  replace t0 : DataW.trod enc Tryz.prog W base (fun _ => true) held n 9 [v0] = some y0 := t0
  replace t1 : DataW.trod enc Tryz.prog W base (fun _ => true) held n 9 [v1] = some y1 := t1
  replace t2 : DataW.trod enc Tryz.prog W base (fun _ => true) held n 4 [v2] = some y2 := t2
  replace t3 : DataW.trod enc Tryz.prog W base (fun _ => true) held n 4 [v3] = some y3 := t3
  replace t4 : DataW.trod enc Tryz.prog W base (fun _ => true) held n 4 [v4] = some y4 := t4
  replace t5 : DataW.trod enc Tryz.prog W base (fun _ => true) held n 3 [v5] = some y5 := t5
  obtain ⟨z0, e0, x0, _⟩ := DataW.trod_string Tryz.underlying9 t0
  obtain ⟨z1, e1, x1, _⟩ := DataW.trod_string Tryz.underlying9 t1
  obtain ⟨z2, e2, x2⟩ := DataW.trod_bool Tryz.underlying4 t2
  obtain ⟨z3, e3, x3⟩ := DataW.trod_bool Tryz.underlying4 t3
  obtain ⟨z4, e4, x4⟩ := DataW.trod_bool Tryz.underlying4 t4
  obtain ⟨z5, e5, x5, w5⟩ := DataW.trod_int Tryz.underlying3 t5
  have e0 : v0 = .string z0 := by simpa using e0
  have e1 : v1 = .string z1 := by simpa using e1
  have e2 : v2 = .bool z2 := by simpa using e2
  have e3 : v3 = .bool z3 := by simpa using e3
  have e4 : v4 = .bool z4 := by simpa using e4
  have e5 : v5 = .int .i64 z5 := by simpa using e5
  subst e0 e1 e2 e3 e4 e5
  have hb := int_rng w5
  have hd : d = .agg [y0.1, y1.1, y2.1, y3.1, y4.1, y5.1] := hy
  rw [hd, x0, x1] at hw
  simp only [Rows.uptoBulk, Rows.uptoBulkAll] at hw
  have h0 := size_list z0
  have h1 := size_list z1
  exact ⟨z0, z1, z2, z3, z4, z5, rfl, by omega, by omega, hb.1, hb.2⟩
end
end
end Go.Proofs.YtdipbfchlopeaaaGreatDoor
