/-
  Rules for numbers, the document's answer: kinds of bytes, numbers, digits, words.
-/
import Derived.Test.YtgbemhehbhlgpaaGreatDoorPlV
import Derived.Test.YtgbemhehbhlgpaaGreatDoorPlN
import Derived.Deep.LoopGhost
namespace Go.Proofs.YtgbemhehbhlgpaaGreatDoor
open Go.RowKit Go.PlainAid

/-- The kind of a byte: a digit, a small letter, anything else. -/
def kdB (c : Int) : Int := if bDg c = true then 1 else if bLo c = true then 2 else 0
set_option maxRecDepth 100000 in
theorem rKind_any (c : Int) (w : World) : Calls Tryz.prog 58 #[.int .u8 c] w fun e w' => e = .returned (.int .i64 (kdB c)) ∧ w = w' := by
  have hk : (48 ≤ c ∧ c ≤ 57 ∧ kdB c = 1) ∨ (¬ (48 ≤ c ∧ c ≤ 57) ∧ 97 ≤ c ∧ c ≤ 122 ∧ kdB c = 2) ∨ (¬ (48 ≤ c ∧ c ≤ 57) ∧ ¬ (97 ≤ c ∧ c ≤ 122) ∧ kdB c = 0) := by
    unfold kdB bDg bLo
    simp only [decide_eq_true_eq]
    split
    · rename_i h; exact .inl ⟨h.1, h.2, rfl⟩
    · rename_i h
      split
      · rename_i h2; exact .inr (.inl ⟨h, h2.1, h2.2, rfl⟩)
      · rename_i h2; exact .inr (.inr ⟨h, h2, rfl⟩)
  obtain ⟨K, hK⟩ : ∃ K, kdB c = K := ⟨_, rfl⟩
  rw [hK] at hk ⊢
  clear hK
  rcases hk with ⟨h1, h2, rfl⟩ | ⟨h0, h1, h2, rfl⟩ | ⟨h0, h1, rfl⟩
  · go_enter Tryz.func58, Tryz.ntmps58
    go_wp2_with fail
    go_ret
    exact ⟨rfl, rfl⟩
  · have h3 : ¬ c ≤ 57 := by omega
    clear h0
    go_enter Tryz.func58, Tryz.ntmps58
    go_wp2_with fail
    all_goals first | (go_ret; exact ⟨rfl, rfl⟩) | omega
  · go_enter Tryz.func58, Tryz.ntmps58
    go_wp2_with fail
    all_goals first | (exfalso; omega) | (go_ret; exact ⟨rfl, rfl⟩)
theorem kd_one {c : Int} : kdB c = 1 ↔ bDg c = true := by
  unfold kdB
  split
  · rename_i h; simp [h]
  · rename_i h
    split
    · simp [h]
    · simp [h]

/-- The value of a text's first bytes, read as digits. -/
def pv (t : ByteArray) : Nat → Nat
  | 0 => 0
  | i + 1 => pv t i * 10 + (bt t i - 48).toNat
theorem pv_dvF (t : ByteArray) : ∀ i, i ≤ t.size → pv t i = dvF 0 (t.data.toList.take i)
  | 0, _ => rfl
  | i + 1, h => by
    have hl : i < t.data.toList.length := by
      have h' : i < t.size := h
      simpa using h'
    have hb := get_bt t i h
    rw [List.take_add_one, List.getElem?_eq_getElem hl]
    show pv t i * 10 + (bt t i - 48).toNat = dvF 0 (t.data.toList.take i ++ [t.data.toList[i]])
    rw [pv_dvF t i (by omega)]
    unfold dvF
    rw [List.foldl_append]
    show _ = List.foldl _ 0 _ * 10 + ((t.data.toList[i]).toNat - 48)
    have e : t.data.toList[i] = t[i]'h := by simp; rfl
    rw [e, ← hb]
    congr 1
    omega
theorem pv_all (t : ByteArray) : pv t t.size = dval t := by
  rw [pv_dvF t t.size (Nat.le_refl _), List.take_of_length_le (by simp), dvF_rowval, Nat.zero_mul, Nat.zero_add]
  rfl
theorem pv_lt {t : ByteArray} : ∀ i, (∀ j, j < i → bDg (bt t j) = true) → pv t i < 10 ^ i
  | 0, _ => by show 0 < 1; decide
  | i + 1, h => by
    have ih := pv_lt i (fun j hj => h j (by omega))
    have hd := of_decide_eq_true (h i (by omega))
    show pv t i * 10 + (bt t i - 48).toNat < 10 ^ (i + 1)
    rw [Nat.pow_succ]
    omega

/-- What the document reads of a token as a number. -/
def numV (t : ByteArray) : Value := match numOf t with
  | some n => .tuple #[.int .i64 (n : Int), .bool true]
  | none => .tuple #[.int .i64 0, .bool false]
theorem numV_no {t : ByteArray} (h : ¬ (1 ≤ t.size ∧ t.size ≤ 9 ∧ (∀ i, i < t.size → bDg (bt t i) = true) ∧ ¬ (1 < t.size ∧ bt t 0 = 48))) : numV t = .tuple #[.int .i64 0, .bool false] := by
  unfold numV numOf
  rw [if_neg h]
theorem numV_yes {t : ByteArray} (h : 1 ≤ t.size ∧ t.size ≤ 9 ∧ (∀ i, i < t.size → bDg (bt t i) = true) ∧ ¬ (1 < t.size ∧ bt t 0 = 48)) : numV t = .tuple #[.int .i64 (dval t : Int), .bool true] := by
  unfold numV numOf
  rw [if_pos h]
set_option maxRecDepth 100000 in
set_option maxHeartbeats 2000000 in
theorem rNumber_any (t : ByteArray) (w : World) : Calls Tryz.prog 59 #[.string t] w fun e w' => e = .returned (numV t) ∧ w = w' := by
  by_cases h1 : 1 ≤ t.size
  · by_cases h9 : t.size ≤ 9
    · by_cases hz : 1 < t.size ∧ bt t 0 = 48
      · have hn := numV_no (t := t) (fun h => h.2.2.2 hz)
        obtain ⟨z1, z2⟩ := hz
        have i1 : ¬ (t.size : Int) < 1 := by omega
        have i9 : ¬ (9 : Int) < t.size := by omega
        have i2 : (1 : Int) < t.size := by omega
        have hb := get_bt t
        rw [hn]
        clear hn h1 h9
        go_enter Tryz.func59, Tryz.ntmps59
        go_wp2_with fail
        exact bodyPost_ret (v := .tuple #[.int .i64 0, .bool false]) (by simp [results, Tryz.results59, go_sem]) rfl ⟨rfl, rfl⟩
      · have i1 : ¬ (t.size : Int) < 1 := by omega
        have i9 : ¬ (9 : Int) < t.size := by omega
        have hb := get_bt t
        have hkd := fun (c : Int) (W : World) => rKind_any c W
        have hpos : 0 < t.size := h1
        have hcase : ¬ (1 : Int) < t.size ∨ ((1 : Int) < t.size ∧ (bt t 0 == 48) = false) := by
          by_cases e : 1 < t.size
          · exact .inr ⟨by omega, by have : bt t 0 ≠ 48 := fun g => hz ⟨e, g⟩; simpa using this⟩
          · exact .inl (by omega)
        have HZ := Lib.hid hz
        have H1 := Lib.hid h1
        have H9 := Lib.hid h9
        clear hz h1 h9
        rcases hcase with i2 | ⟨i2, i48⟩
        all_goals
          go_enter Tryz.func59, Tryz.ntmps59
          go_wp2_with fail
          go_loopg [4, 5] (t.size + 1) (fun g s4 s5 wr => ∃ i : Nat, s4 = .int .i64 (pv t i : Int) ∧ s5 = .int .i64 (i : Int) ∧ g + i = t.size + 1 ∧ i ≤ t.size ∧ w = wr ∧ ∀ j, j < i → bDg (bt t j) = true)
          case atStart => exact ⟨0, rfl, rfl, rfl, Nat.zero_le _, rfl, fun j hj => absurd hj (Nat.not_lt_zero j)⟩
          case round =>
            obtain ⟨i, rfl, rfl, hg, hi, rfl, hd⟩ := hrel
            have HG := Lib.hid hg
            have HD := Lib.hid hd
            by_cases hlt : i < t.size
            · have hI : (i : Int) < t.size := by omega
              have hi0 : (0 : Int) ≤ i := by omega
              have hiw : IntKind.i64.wrap ((i : Int) + 1) = (i : Int) + 1 := IntWalk.i64_in _ (by omega)
              have hk := rKind_any (bt t i) w
              have hpl := pv_lt i hd
              have hp8 : 10 ^ i ≤ 10 ^ 8 := Nat.pow_le_pow_right (by decide) (by have := H9.out; omega)
              have hpb : pv t i < 100000000 := Nat.lt_of_lt_of_le hpl hp8
              by_cases hx : bDg (bt t i) = true
              · have hxr := of_decide_eq_true hx
                have hx2 : (kdB (bt t i) == 1) = true := by rw [kd_one.2 hx]; rfl
                have hx3 : (kdB (bt t i) != 1) = false := by rw [kd_one.2 hx]; rfl
                have hk1 : kdB (bt t i) = 1 := kd_one.2 hx
                have f1 : IntKind.u8.wrap (bt t i - 48) = bt t i - 48 := IntWalk.u8_in _ (by omega)
                have f2 : IntKind.i64.wrap (bt t i - 48) = bt t i - 48 := IntWalk.i64_in _ (by omega)
                have f3 : IntKind.i64.wrap ((pv t i : Int) * 10) = (pv t i : Int) * 10 := IntWalk.i64_in _ (by omega)
                have f4 : IntKind.i64.wrap ((pv t i : Int) * 10 + (bt t i - 48)) = (pv t i : Int) * 10 + (bt t i - 48) := IntWalk.i64_in _ (by omega)
                have hv : ((pv t (i + 1) : Nat) : Int) = (pv t i : Int) * 10 + (bt t i - 48) := by
                  show ((pv t i * 10 + (bt t i - 48).toNat : Nat) : Int) = _
                  omega
                have HV := Lib.hid hv
                have hd' : ∀ j, j < i + 1 → bDg (bt t j) = true := fun j hj => by
                  by_cases e : j = i
                  · rw [e]; exact hx
                  · exact hd j (by omega)
                have HD2 := Lib.hid hd'
                rw [hk1] at hk
                clear hx hxr hx2 hx3 hk1 hv hd hd' hg hpl hp8 hpb
                go_wp2_with fail
                refine hk.mono ?_
                rintro e w' ⟨rfl, rfl⟩
                go_wp2_with fail
                go_roundg (t.size - i)
                case rel => exact ⟨i + 1, by rw [HV.out], by simp, by have := HG.out; omega, hlt, rfl, HD2.out⟩
                case measure => have := HG.out; omega
              · have hn := numV_no (t := t) (fun h => hx (h.2.2.1 i hlt))
                have hk1 : kdB (bt t i) ≠ 1 := fun e => hx (kd_one.1 e)
                have hx2 : (kdB (bt t i) == 1) = false := by simpa using hk1
                have HN := Lib.hid hn
                generalize kdB (bt t i) = KD at *
                clear hx hk1 hn hd hg hpl hp8 hpb
                go_wp2_with fail
                refine hk.mono ?_
                rintro e w' ⟨rfl, rfl⟩
                go_wp2_with fail
                exact bodyPost_ret (v := .tuple #[.int .i64 0, .bool false]) (by simp [results, Tryz.results59, go_sem]) rfl ⟨by rw [HN.out], rfl⟩
            · have hI : ¬ (i : Int) < t.size := by omega
              obtain rfl : i = t.size := by omega
              have hn := numV_yes (t := t) ⟨H1.out, H9.out, hd, HZ.out⟩
              have HN := Lib.hid hn
              have hpa := pv_all t
              rw [hpa] at *
              clear hn hd hg hlt hpa
              go_wp2_with fail
              exact bodyPost_ret (v := .tuple #[.int .i64 (dval t : Int), .bool true]) (by simp [results, Tryz.results59, go_sem]) rfl ⟨by rw [HN.out], rfl⟩
    · have hn := numV_no (t := t) (fun h => h9 h.2.1)
      have i1 : ¬ (t.size : Int) < 1 := by omega
      have i9 : (9 : Int) < t.size := by omega
      rw [hn]
      clear hn h1 h9
      go_enter Tryz.func59, Tryz.ntmps59
      go_wp2_with fail
      exact bodyPost_ret (v := .tuple #[.int .i64 0, .bool false]) (by simp [results, Tryz.results59, go_sem]) rfl ⟨rfl, rfl⟩
  · have hn := numV_no (t := t) (fun h => h1 h.1)
    have i1 : (t.size : Int) < 1 := by omega
    rw [hn]
    clear hn h1
    go_enter Tryz.func59, Tryz.ntmps59
    go_wp2_with fail
    exact bodyPost_ret (v := .tuple #[.int .i64 0, .bool false]) (by simp [results, Tryz.results59, go_sem]) rfl ⟨rfl, rfl⟩
end Go.Proofs.YtgbemhehbhlgpaaGreatDoor
