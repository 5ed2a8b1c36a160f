/-
  The reader of files: references.
-/
import Derived.Test.YtnmpbphnfiiafaaGreatDoorXmF
namespace Go.Proofs.YtnmpbphnfiiafaaGreatDoor
open Go.RowKit Go.PlainAid

/-- What the library's variables hold: utf8's two tables, a bound of bytealg's. -/
def Gx (w : World) : Prop := Tabs w ∧ ∃ m, w.cell? ⟨2, 0, none⟩ = some (.int .i64 m)
theorem Gx.on {w w' : World} (h : Gx w) (hB : Below w.heap.size w w') : Gx w' := by
  obtain ⟨h1, m, h2⟩ := h
  exact ⟨h1.later hB, m, cell_kept h2 hB⟩
theorem cut_any (t : ByteArray) (w : World) (hG : Gx w) (hz : t.size ≤ 4000000000) :
    Calls Tryz.prog 96 #[.string (t.extract 1 t.size), .string ⟨#[59]⟩] w fun e w' => (match semi t 1 with
      | none => ∃ a b, e = .returned (.tuple #[.string a, .string b, .bool false])
      | some k => ∃ b, e = .returned (.tuple #[.string (t.extract 1 k), .string b, .bool true])) ∧ Below w.heap.size w w' := by
  obtain ⟨m, hm⟩ := hG.2
  refine (Tryz.strings_Cut (t.extract 1 t.size) ⟨#[59]⟩ m w (by rw [ByteArray.size_extract]; omega) hm).mono ?_
  rintro e w' ⟨h1, n, rfl⟩
  refine ⟨?_, bdN0 (Below.refl _ _) n⟩
  have hc := cut_semi t
  rw [h1, show (⟨#[59]⟩ : ByteArray).data.toList = [59] from rfl, hc]
  cases semi t 1 with
  | none => exact ⟨_, _, rfl⟩
  | some k => exact ⟨_, rfl⟩
theorem mk_list (d : ByteArray) : (⟨d.data.toList.toArray⟩ : ByteArray) = d := by cases d; simp
/-- strings.CutPrefix at one byte. -/
theorem cutPrefix_one (d : ByteArray) (c : UInt8) (hc : c ≠ 0) (w : World) :
    Calls Tryz.prog 97 #[.string d, .string ⟨#[c]⟩] w fun e w' => e = .returned (.tuple #[.string (if bt d 0 = (c.toNat : Int) then d.extract 1 d.size else d), .bool (decide (bt d 0 = (c.toNat : Int)))]) ∧ w = w' := by
  refine (Tryz.strings_CutPrefix d ⟨#[c]⟩ w).mono fun e w' ⟨h1, h2⟩ => ⟨?_, h2.symm⟩
  have hp : Lib.hasPrefix d.data.toList [c] = decide (bt d 0 = (c.toNat : Int)) := by
    have h := prefix_wd d [c] 0 (by simpa using hc)
    unfold Lib.hasPrefix
    rw [List.drop_zero] at h
    rw [h]
    simp only [List.map_cons, List.map_nil, wdAt, Bool.and_true]
    rfl
  rw [h1, show (⟨#[c]⟩ : ByteArray).data.toList = [c] from rfl]
  unfold Lib.trimPrefix
  rw [hp]
  by_cases h : bt d 0 = (c.toNat : Int)
  · rw [decide_eq_true h, if_pos h, if_pos rfl]
    have : (⟨(d.data.toList.drop [c].length).toArray⟩ : ByteArray) = d.extract 1 d.size := by
      rw [← mk_list (d.extract 1 d.size), drop_list]
      rfl
    rw [this]
  · rw [decide_eq_false h, if_neg h]
    simp only [Bool.false_eq_true, if_false]
theorem extract_rest (t : ByteArray) (a b : Nat) (hb : b ≤ t.size) : (t.extract a b).extract 1 (t.extract a b).size = t.extract (a + 1) b := by
  rw [ByteArray.extract_extract, ByteArray.size_extract]
  try (congr 1; omega)
theorem lowx_size (s : ByteArray) : (low s).size = s.size := mapB_size _ _
/-- One hexadecimal digit. -/
theorem digit_one (d : ByteArray) (i : Nat) (hi : i < d.size) (w : World) :
    Calls Tryz.prog 98 #[.string ⟨#[48, 49, 50, 51, 52, 53, 54, 55, 56, 57, 97, 98, 99, 100, 101, 102]⟩, .int .u8 (bt (low (d.extract i (i + 1))) 0)] w fun e w' => e = .returned (.int .i64 (if digV (bt d i) < 16 then digV (bt d i) else -1)) ∧ w = w' := by
  refine (Tryz.strings_IndexByte _ _ w).mono fun e w' ⟨h1, h2⟩ => ⟨?_, h2.symm⟩
  rw [h1]
  have hs : (d.extract i (i + 1)).size = 1 := by rw [ByteArray.size_extract]; omega
  have hl : (low (d.extract i (i + 1))).size = 1 := by rw [lowx_size, hs]
  have e0 : bt (d.extract i (i + 1)) 0 = bt d i := by
    rw [bt_sub d i (i + 1) 0 (by omega) (by omega)]
    rfl
  have e1 : bt (low (d.extract i (i + 1))) 0 = ((lowC ((d.extract i (i + 1))[0]'(by omega))).toNat : Int) := by
    rw [← get_bt _ 0 (by omega)]
    unfold low
    rw [mapB_get lowC (d.extract i (i + 1)) 0 (by omega)]
  have e2 : (((d.extract i (i + 1))[0]'(by omega)).toNat : Int) = bt d i := by rw [get_bt _ 0 (by omega), e0]
  have e3 : (lowC ((d.extract i (i + 1))[0]'(by omega))).toNat.toUInt8 = lowC ((d.extract i (i + 1))[0]'(by omega)) := UInt8.ofNat_toNat
  have := hex_at ((d.extract i (i + 1))[0]'(by omega))
  rw [e2] at this
  rw [e1, Int.toNat_natCast, e3, show (⟨#[48, 49, 50, 51, 52, 53, 54, 55, 56, 57, 97, 98, 99, 100, 101, 102]⟩ : ByteArray).data.toList = hexd from rfl, this]
theorem numF_none {d : ByteArray} {base : Int} {f p : Nat} {x : Int} (h : ¬ digV (bt d p) < base) : numF d base (f + 1) p x = none := by
  unfold numF
  rw [if_neg h]
theorem numF_some {d : ByteArray} {base : Int} {f p : Nat} {x : Int} (h : digV (bt d p) < base) : numF d base (f + 1) p x = numF d base f (p + 1) (x * base + digV (bt d p)) := by
  conv => lhs; unfold numF
  rw [if_pos h]
theorem five_cases {b : ByteArray} {r : Int} (h : fiveX b = some r) : (b = ⟨#[108, 116]⟩ ∧ r = 60) ∨ (b = ⟨#[103, 116]⟩ ∧ r = 62) ∨ (b = ⟨#[97, 109, 112]⟩ ∧ r = 38) ∨ (b = ⟨#[113, 117, 111, 116]⟩ ∧ r = 34) ∨ (b = ⟨#[97, 112, 111, 115]⟩ ∧ r = 39) := by
  unfold fiveX at h
  split at h
  · injection h with h; exact .inl ⟨by assumption, h.symm⟩
  · split at h
    · injection h with h; exact .inr (.inl ⟨by assumption, h.symm⟩)
    · split at h
      · injection h with h; exact .inr (.inr (.inl ⟨by assumption, h.symm⟩))
      · split at h
        · injection h with h; exact .inr (.inr (.inr (.inl ⟨by assumption, h.symm⟩)))
        · split at h
          · injection h with h; exact .inr (.inr (.inr (.inr ⟨by assumption, h.symm⟩)))
          · cases h
/-- What reference hands back. -/
def RefEnd (t : ByteArray) (w : World) (e : Ending) (w' : World) : Prop :=
  (match refT t with
    | none => ∃ a b, e = .returned (.tuple #[.int .i32 a, .int .i64 b, .bool false])
    | some r => e = .returned (.tuple #[.int .i32 r.1, .int .i64 (r.2 : Int), .bool true])) ∧ Below w.heap.size w w'
set_option maxRecDepth 100000 in
set_option maxHeartbeats 4000000 in
theorem reference_five (t : ByteArray) (w : World) (hG : Gx w) (h1 : 1 ≤ t.size) (hz : t.size ≤ 4000000000) (h : semi t 1 = none ∨ ∃ k r, semi t 1 = some k ∧ fiveX (t.extract 1 k) = some r) :
    Calls Tryz.prog 76 #[.string t] w fun e w' => RefEnd t w e w' := by
  have hc := cut_any t w hG hz
  have hI : (1 : Int) ≤ t.size := by omega
  rcases h with hs | ⟨k, r, hs, hf⟩
  · rw [hs] at hc
    simp only at hc
    have hr : refT t = none := by unfold refT; rw [hs]
    have HR := Lib.hid hr
    clear hs hr
    go_enter Tryz.func76, Tryz.ntmps76
    go_wp2_with fail
    refine hc.mono ?_
    rintro e w1 ⟨⟨a, b, rfl⟩, hB⟩
    go_wp2_with fail
    refine bodyPost_ret (v := .tuple #[.int .i32 0, .int .i64 0, .bool false]) (by simp [results, Tryz.results76, go_sem]) rfl ?_
    unfold RefEnd
    rw [HR.out]
    exact ⟨⟨_, _, rfl⟩, hB⟩
  · rw [hs] at hc
    obtain ⟨hk1, hk2, _⟩ := semi_in hs
    have hr : refT t = some (r, k + 1) := by unfold refT; rw [hs]; simp only; rw [hf]
    have hsz : (t.extract 1 k).size = k - 1 := by rw [ByteArray.size_extract]; omega
    have f1 : IntKind.i64.wrap (((t.extract 1 k).size : Int) + 2) = ((k + 1 : Nat) : Int) := by rw [hsz, IntWalk.i64_in _ (by omega)]; omega
    obtain ⟨B, hB⟩ : ∃ B, t.extract 1 k = B := ⟨_, rfl⟩
    simp only at hc
    have hkk : (t.extract 1 k).size + 2 = k + 1 := by omega
    rw [hB] at hc hf f1 hkk
    have HR := Lib.hid hr; have HK := Lib.hid hkk
    clear hs hr hsz hB hk1 hk2 hkk
    rcases five_cases hf with ⟨rfl, rfl⟩ | ⟨rfl, rfl⟩ | ⟨rfl, rfl⟩ | ⟨rfl, rfl⟩ | ⟨rfl, rfl⟩
    all_goals
      clear hf
      go_enter Tryz.func76, Tryz.ntmps76
      go_wp2_with fail
      refine hc.mono ?_
      rintro e w1 ⟨⟨b, rfl⟩, hB⟩
      go_wp2_with fail
      refine bodyPost_ret (by simp [results, Tryz.results76, go_sem]; rfl) rfl ?_
      unfold RefEnd
      rw [HR.out]
      have hk := HK.out
      simp [ByteArray.size] at hk
      exact ⟨by simp; omega, hB⟩
end Go.Proofs.YtnmpbphnfiiafaaGreatDoor
