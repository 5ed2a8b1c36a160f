/-
  The walk of XmlDress: it returns true for all tokens and dresses.
-/
import Derived.Test.YtdipbfchlopeaaaGreatDoorXmBkW
import Derived.Test.YtdipbfchlopeaaaGreatDoorXnP
import Derived.Deep.CutBlock
namespace Go.Proofs.YtdipbfchlopeaaaGreatDoor
open Go.RowKit Go.PlainAid

theorem str_add (a b : ByteArray) : (a ++ b).data.toList = a.data.toList ++ b.data.toList := by rw [ByteArray.data_append, Array.toList_append]
theorem encA_len (nu : Bool) {v : ByteArray} (hv : takenE v = 0) : (encA nu v).length ≤ 10 * v.size := by
  have key : ∀ (L : List Int), Chars L → (L.flatMap (encN nu)).length ≤ 10 * (encL L).length := by
    intro L
    induction L with
    | nil => intro _; simp
    | cons r L ih =>
      intro h
      have h1 := encN_len nu (h r (by simp))
      have h2 := ih (fun x hx => h x (by simp [hx]))
      have h3 : 1 ≤ (Lib.encodeRune r).length := by unfold Lib.encodeRune; rw [List.length_map]; exact (Lib.encodeRuneZ_length r).1
      unfold encL at h2 ⊢
      rw [List.flatMap_cons, List.flatMap_cons, List.length_append, List.length_append]
      omega
  obtain ⟨h1, h2⟩ := runes_of hv
  have := key _ h1
  rw [h2] at this
  have e := size_list v
  unfold encA
  omega
/-- How the laws dress. -/
def DW (q : UInt8) (nu sh : Bool) (bl cm : List UInt8) : Dr := ⟨q, encA nu, bl, cm, sh⟩
theorem attrsDW_len {q : UInt8} {nu sh : Bool} {bl cm : List UInt8} (hbl : bl.length ≤ 5) : ∀ {l : List At2}, (∀ a ∈ l, attrOk a = true) → (attrsD (DW q nu sh bl cm) l).length ≤ 10 * wtL wtAt l
  | [], _ => Nat.zero_le _
  | a :: l, h => by
    have h1 := attrsDW_len (q := q) (nu := nu) (sh := sh) (cm := cm) hbl (l := l) fun b hb => h b (by simp [hb])
    have ha := h a (by simp)
    unfold attrOk at ha
    simp only [Bool.and_eq_true, decide_eq_true_eq] at ha
    have h2 := encA_len nu ha.2
    have h3 := size_list a.1
    have h4 : (attrD (DW q nu sh bl cm) a).length = a.1.size + (encA nu a.2).length + bl.length + 4 := by
      show (32 :: (bl ++ (a.1.data.toList ++ ([61, q] ++ (encA nu a.2 ++ [q]))))).length = _
      simp only [List.length_cons, List.length_append, List.length_nil]
      omega
    simp only [attrsD, wtL, wtAt, List.length_append]
    omega
theorem bodyDW_len {q : UInt8} {nu sh : Bool} {bl cm : List UInt8} (hbl : bl.length ≤ 5) (hcm : cm.length ≤ 16) : ∀ {l : List Tk} {p : List ByteArray} {a : Int} {sk : Bool}, tksMay p a l = true → (bodyD (DW q nu sh bl cm) sk l).length ≤ 20 * wtL wtT l
  | [], _, _, sk, _ => by cases sk <;> exact Nat.zero_le _
  | t :: l, p, a, sk, h => by
    unfold tksMay at h
    rw [Bool.and_eq_true] at h
    have i1 := bodyDW_len (q := q) (nu := nu) (sh := sh) hbl hcm (sk := false) h.2
    have i2 := bodyDW_len (q := q) (nu := nu) (sh := sh) hbl hcm (sk := true) h.2
    have e1 := size_list t.name
    cases sk with
    | true =>
      unfold bodyD
      simp only [wtL]
      omega
    | false =>
      unfold bodyD
      rcases tkMay_cases h.1 with ⟨h1, _, h2, h3⟩ | ⟨h1, h2, h3⟩ | ⟨h1, _, _, _, h2⟩
      · rw [if_pos h1]
        have h4 := attrsDW_len (q := q) (nu := nu) (sh := sh) (cm := cm) hbl (attrsOk_parts h3)
        have hb : (DW q nu sh bl cm).bl = bl := rfl
        have hc : (DW q nu sh bl cm).cm = cm := rfl
        simp only [wtL, wtT]
        split
        · simp only [List.length_cons, List.length_append, List.length_nil, hb]; omega
        · simp only [List.length_cons, List.length_append, List.length_nil, hb, hc]; omega
      · rw [if_neg (by omega), if_pos h1]
        have hb : (DW q nu sh bl cm).bl = bl := rfl
        have hc : (DW q nu sh bl cm).cm = cm := rfl
        simp only [wtL, wtT, List.length_cons, List.length_append, List.length_nil, hb, hc]
        omega
      · rw [if_neg (by omega), if_neg (by omega)]
        have h4 := encA_len nu h2
        have hc : (DW q nu sh bl cm).cm = cm := rfl
        have he : (DW q nu sh bl cm).enc = encA nu := rfl
        simp only [wtL, wtT, List.length_append, hc, he]
        omega
theorem body_split {q : UInt8} {nu sh : Bool} {bl cm : List UInt8} {t : Tk} {l : List Tk} : bodyD (DW q nu sh bl cm) false (t :: l) =
    (if t.kind = 1 then (60 :: t.name.data.toList) ++ (attrsD (DW q nu sh bl cm) t.attrs ++ (bl ++ (if (sh && nextEnd l) = true then [47, 62] ++ bodyD (DW q nu sh bl cm) true l else [62] ++ (cm ++ bodyD (DW q nu sh bl cm) false l))))
    else if t.kind = 2 then (cm ++ ([60, 47] ++ (t.name.data.toList ++ (bl ++ [62])))) ++ bodyD (DW q nu sh bl cm) false l
    else (cm ++ encA nu t.text) ++ bodyD (DW q nu sh bl cm) false l) := by
  show (if t.kind = 1 then _ else _) = _
  split
  · simp [DW]
  · split
    · simp [DW]
    · simp [DW]
theorem body_skip {D : Dr} {u : Tk} {l : List Tk} : bodyD D true (u :: l) = bodyD D false l := by
  conv => lhs; unfold bodyD
theorem blank_cases {x : Int} (_ : 0 ≤ x) : x % 4 = 0 ∨ x % 4 = 1 ∨ x % 4 = 2 ∨ (x % 4 = 3) := by omega
theorem wrap_u64_nonneg (x : Int) : 0 ≤ IntKind.u64.wrap x := by
  simp [IntKind.wrap, IntKind.signed, IntKind.bits]
  omega
theorem idx30 (A B C : ByteArray) (w : World) : (Instr.index 44 (.agg #[.string A, .string B, .string C]) (.int .u64 0)).run Tryz.prog w = .ok (.string A) w := by kernel_rfl
theorem idx31 (A B C : ByteArray) (w : World) : (Instr.index 44 (.agg #[.string A, .string B, .string C]) (.int .u64 1)).run Tryz.prog w = .ok (.string B) w := by kernel_rfl
theorem idx32 (A B C : ByteArray) (w : World) : (Instr.index 44 (.agg #[.string A, .string B, .string C]) (.int .u64 2)).run Tryz.prog w = .ok (.string C) w := by kernel_rfl
theorem head1 : HeadOk (⟨#[60, 63, 120, 109, 108, 32, 118, 101, 114, 115, 105, 111, 110, 61, 34, 49, 46, 48, 34, 63, 62]⟩ : ByteArray).data.toList ∧ (⟨#[60, 63, 120, 109, 108, 32, 118, 101, 114, 115, 105, 111, 110, 61, 34, 49, 46, 48, 34, 63, 62]⟩ : ByteArray).size ≤ 38 := ⟨.inr (.inl (by simp)), by decide⟩
theorem head2 : HeadOk (⟨#[60, 63, 120, 109, 108, 32, 118, 101, 114, 115, 105, 111, 110, 61, 34, 49, 46, 48, 34, 32, 101, 110, 99, 111, 100, 105, 110, 103, 61, 34, 85, 84, 70, 45, 56, 34, 63, 62]⟩ : ByteArray).data.toList ∧ (⟨#[60, 63, 120, 109, 108, 32, 118, 101, 114, 115, 105, 111, 110, 61, 34, 49, 46, 48, 34, 32, 101, 110, 99, 111, 100, 105, 110, 103, 61, 34, 85, 84, 70, 45, 56, 34, 63, 62]⟩ : ByteArray).size ≤ 38 := ⟨.inr (.inr (by simp)), by decide⟩
/-- A comment's byte. -/
def CmB (c : UInt8) : Prop := 32 ≤ c.toNat ∧ c.toNat < 128 ∧ c ≠ 45
/-- What a loop over the blanks has. -/
structure BlR (w : World) (i : Nat) (b : ByteArray) (wx : World) : Prop where
  z : b.size = i
  i5 : i ≤ 5
  b : ∀ c ∈ b.data.toList, bBlank (c.toNat : Int) = true
  w : w = wx
structure CmR (w : World) (i : Nat) (b : ByteArray) (wx : World) : Prop where
  z : b.size ≤ i
  i5 : i ≤ 9
  b : ∀ c ∈ b.data.toList, CmB c
  w : w = wx
structure DsR (w3 : World) (D : Dr) (PT : List UInt8) (lk : List Tk) (i : Nat) (sB : ByteArray) (wx : World) : Prop where
  e : sB.data.toList ++ bodyD D false (lk.drop i) = PT
  m : ∃ p a, tksMay p a (lk.drop i) = true
  b : Below w3.heap.size w3 wx
section
set_option maxRecDepth 100000
set_option maxHeartbeats 16000000
theorem xmlDress_walk (v : Value) (l0 : List TkI) (db dc : ByteArray) (ap nu sh : Bool) (hd : Int) (w : World) (hv : TisArg w v l0) (hL : wtL wtTk l0 ≤ 1048576) (_hdb : db.size ≤ 1048576) (_hdc : dc.size ≤ 1048576) (_hd1 : -9223372036854775808 ≤ hd) (_hd2 : hd ≤ 9223372036854775807) (hG : Gl w) :
    Calls Tryz.prog 6 #[v, .agg #[Value.string db, Value.string dc, Value.bool ap, Value.bool nu, Value.bool sh, Value.int .i64 hd]] w fun e w' => e = .returned (.bool true) ∧ Below w.heap.size w w' := by
  obtain ⟨a0, c0, ev, hok⟩ := id hv.2
  subst ev
  have hv4 := hv.take 400
  have hL4 : wtL wtTk (l0.take 400) ≤ 1048576 := Nat.le_trans (wtL_take _ _ _) hL
  obtain ⟨n0, hn0⟩ : ∃ n, l0.length = n := ⟨_, rfl⟩
  rw [hn0] at hv4 hok ⊢
  obtain ⟨n4, hn4⟩ : ∃ n, min n0 400 = n := ⟨_, rfl⟩
  obtain ⟨l, hl⟩ : ∃ x, l0.take 400 = x := ⟨_, rfl⟩
  have hln : l.length = n4 := by rw [← hl, List.length_take, hn0, Nat.min_comm]; exact hn4
  rw [hn4, hl] at hv4
  rw [hl] at hL4
  have hcut := cut_laws a0 n0 c0
  rw [hn4] at hcut
  have HCUT := Lib.hid (fun W => hcut W hok.1)
  have hn4z : n4 ≤ 400 := by omega
  obtain ⟨dd, hdd⟩ : ∃ b, w.heap.size = b := ⟨_, rfl⟩
  obtain ⟨w0, hw0⟩ : ∃ x, w.alloc (.cells #[Value.string db, Value.string dc, Value.bool ap, Value.bool nu, Value.bool sh, Value.int .i64 hd] 43) = x := ⟨_, rfl⟩
  have hB0 : Below w.heap.size w w0 := by rw [← hw0]; exact (Below.refl _ _).alloc (Nat.le_refl _) _
  have hD0 : w0.heap[dd]? = some (.cells #[Value.string db, Value.string dc, Value.bool ap, Value.bool nu, Value.bool sh, Value.int .i64 hd] 43 (0, 0)) := by rw [← hw0, ← hdd]; exact new_at _ _
  have HV4 := Lib.hid (hv4.on hB0)
  have HLN := Lib.hid hln
  have HL4 := Lib.hid hL4
  have HWK := Lib.hid (wakes_any w0 (hG.on hB0))
  have HG := Lib.hid hG
  have HB0 := Lib.hid hB0; have HD0 := Lib.hid hD0; have HW0 := Lib.hid hw0; have HDD := Lib.hid hdd
  clear hG hv hcut hv4 hL hL4 hln hl hn4 hn0 hok hB0 hD0 hw0 hdd
  go_enter Tryz.func6, Tryz.ntmps6
  go_upto_region 0 with fail
  go_cut [3] (fun s3 wx => s3 = .pointer (some ⟨dd, 0, none⟩) ∧ wx = w0)
  case first => as_aux_lemma =>
    go_wp2_with fail
    go_meet
    case rel => exact ⟨by rw [HDD.out], HW0.out⟩
  case rest =>
  obtain ⟨rfl, rfl⟩ := hcut
  clear HW0
  obtain ⟨w0, hw0⟩ : ∃ x, wc = x := ⟨_, rfl⟩
  rw [hw0] at HV4 HWK HB0 HD0 ⊢
  clear hw0
  go_wp2_with fail
  refine HWK.out.mono ?_
  rintro e w1 ⟨rfl, hB1⟩
  have HB1 := Lib.hid (HB0.out.trans (hB1.mono HB0.out.size)); have HB01 := Lib.hid hB1
  clear hB1 HWK
  go_wp2_with fail
  refine (HCUT.out w1).mono ?_
  rintro e w1' ⟨rfl, rfl⟩
  have hcp := copies_any w1 _ l (HV4.out.on HB01.out) (by have := HLN.out; omega) (fun t ht => by
    have h := wtL_mem (f := wtTk) ht
    have h2 : t.name.size + t.text.size + wtL wtAt t.attrs + 3 ≤ wtL wtTk l := h
    have := HL4.out; omega)
  have HCP := Lib.hid hcp
  clear hcp HCUT
  go_wp2_with fail
  refine HCP.out.mono ?_
  rintro e w2 ⟨v2, rfl, hO2, hB2⟩
  have hpr := print_toks w2 v2 l hO2.win HL4.out
  have HPR := Lib.hid hpr
  have HB02 := Lib.hid (HB01.out.trans (hB2.mono HB01.out.size))
  clear hpr hO2 hB2 HCP HB01
  go_wp2_with fail
  refine HPR.out.mono ?_
  rintro e w3 ⟨rfl, hB3⟩
  have HB03 := Lib.hid (HB02.out.trans (hB3.mono HB02.out.size))
  clear hB3 HPR HB02 HB1
  obtain ⟨lk, hlk⟩ : ∃ x, l.map toTk = x := ⟨_, rfl⟩
  rw [hlk]
  obtain ⟨pe, hpe⟩ : ∃ e, prE lk = e := ⟨_, rfl⟩
  obtain ⟨pb, hpb⟩ : ∃ e, prB lk = e := ⟨_, rfl⟩
  rw [hpe, hpb]
  have HLK := Lib.hid hlk
  clear hlk hpb
  by_cases hpz : pe = 0
  case neg =>
    have hne : (pe != 0) = true := by simpa using hpz
    clear hpe
    go_wp2_with fail
    go_ret
    exact ⟨rfl, HB0.out.trans (HB03.out.mono HB0.out.size)⟩
  subst hpz
  have hpo := prE_ok hpe
  have HMAY := Lib.hid hpo.1; have HLONG := Lib.hid hpo.2.1
  have HWT := Lib.hid (show wtL wtT lk ≤ 1048576 from by rw [← HLK.out, wt_toTk]; exact HL4.out)
  clear hpo hpe
  have d0 : w3.cell? ⟨dd, 0, none⟩ = some (.string db) := cellH ((HB03.out.block dd (lt_some HD0.out)).trans HD0.out) 0
  have d1 : w3.cell? ⟨dd, 1, none⟩ = some (.string dc) := cellH ((HB03.out.block dd (lt_some HD0.out)).trans HD0.out) 1
  have d2 : w3.cell? ⟨dd, 2, none⟩ = some (.bool ap) := cellH ((HB03.out.block dd (lt_some HD0.out)).trans HD0.out) 2
  have d5 : w3.cell? ⟨dd, 5, none⟩ = some (.int .i64 hd) := cellH ((HB03.out.block dd (lt_some HD0.out)).trans HD0.out) 5
  go_upto_block 0 with fail
  go_cut [7, 8] from 35 to 64 (fun s7 s8 wx => ∃ (bl : ByteArray) (k : Value), s7 = .string bl ∧ k = s8 ∧ bl.size ≤ 5 ∧ (∀ c ∈ bl.data.toList, bBlank (c.toNat : Int) = true) ∧ wx = w3)
  case first => as_aux_lemma =>
    have hbt := get_bt db
    go_wp2_with fail
    go_loopg [7, 8] 6 (fun f s7 s8 wx => ∃ (i : Nat) (b : ByteArray), s7 = .string b ∧ s8 = .int .i64 (i : Int) ∧ f + i = 6 ∧ BlR w3 i b wx)
    case atStart => exact ⟨0, ⟨#[]⟩, rfl, rfl, rfl, rfl, by decide, fun c hc => absurd hc (by simp), rfl⟩
    case round =>
      obtain ⟨i, b, rfl, rfl, hg, hz, hi5, hb, rfl⟩ := hrel
      have HB := Lib.hid hb
      have HG1 := Lib.hid (And.intro hg (And.intro hz hi5))
      have hi0 : (0 : Int) ≤ i := by omega
      have f1 : IntKind.i64.wrap ((i : Int) + 1) = (i : Int) + 1 := IntWalk.i64_in _ (by omega)
      have hcat : ¬ (9223372036854775807 < b.size + 1) := by omega
      have done : ∀ x : UInt8, bBlank (x.toNat : Int) = true → i < 5 → BlR w3 (i + 1) (b ++ ⟨#[x]⟩) w3 := fun x hx h5 => ⟨by rw [ByteArray.size_append, hz]; rfl, by omega, fun c hc => by
        rw [str_add] at hc
        rcases List.mem_append.1 hc with hc | hc
        · exact HB.out c hc
        · rw [List.mem_singleton.1 (show c ∈ [x] from hc)]; exact hx, rfl⟩
      have HDONE := Lib.hid done
      clear done hb hg hz hi5
      go_upto_region 9 with fail
      go_cut [43] from 35 to 64 (fun s43 wx => s43 = .bool (decide (i < db.size ∧ i < 5)) ∧ wx = w3)
      case first =>
        by_cases h1 : i < db.size
        · have h1I : (i : Int) < (db.size : Int) := by omega
          by_cases h2 : i < 5
          · have h2I : (i : Int) < 5 := by omega
            have hd : decide (i < db.size ∧ i < 5) = true := decide_eq_true ⟨h1, h2⟩
            have HX := Lib.hid hd
            clear hd
            go_wp2_with fail
            go_meet
            case rel => exact ⟨by rw [HX.out], rfl⟩
          · have h2I : ¬ (i : Int) < 5 := by omega
            have hd : decide (i < db.size ∧ i < 5) = false := decide_eq_false (fun h => h2 h.2)
            have HX := Lib.hid hd
            clear hd
            go_wp2_with fail
            go_meet
            case rel => exact ⟨by rw [HX.out], rfl⟩
        · have h1I : ¬ (i : Int) < (db.size : Int) := by omega
          have hd : decide (i < db.size ∧ i < 5) = false := decide_eq_false (fun h => h1 h.1)
          have HX := Lib.hid hd
          clear hd
          go_wp2_with fail
          go_meet
          case rel => exact ⟨by rw [HX.out], rfl⟩
      case rest =>
      obtain ⟨rfl, rfl⟩ := hcut
      by_cases hc : i < db.size ∧ i < 5
      · rw [decide_eq_true hc]
        have HC := Lib.hid hc
        have h1I : (i : Int) < (db.size : Int) := by omega
        have hbn := bt_nonneg db i
        clear hc
        rcases blank_cases hbn with hm | hm | hm | hm
        · go_wp2_with fail
          go_roundg (5 - i)
          case rel => exact ⟨i + 1, _, rfl, by simp, by have := HG1.out; have := HC.out; omega, HDONE.out 32 (by decide) HC.out.2⟩
          case measure => have := HG1.out; have := HC.out; omega
        · go_wp2_with fail
          go_roundg (5 - i)
          case rel => exact ⟨i + 1, _, rfl, by simp, by have := HG1.out; have := HC.out; omega, HDONE.out 10 (by decide) HC.out.2⟩
          case measure => have := HG1.out; have := HC.out; omega
        · go_wp2_with fail
          go_roundg (5 - i)
          case rel => exact ⟨i + 1, _, rfl, by simp, by have := HG1.out; have := HC.out; omega, HDONE.out 9 (by decide) HC.out.2⟩
          case measure => have := HG1.out; have := HC.out; omega
        · go_wp2_with fail
          go_roundg (5 - i)
          case rel => exact ⟨i + 1, _, rfl, by simp, by have := HG1.out; have := HC.out; omega, HDONE.out 13 (by decide) HC.out.2⟩
          case measure => have := HG1.out; have := HC.out; omega
      · rw [decide_eq_false hc]
        have hblz : b.size ≤ 5 := by have := HG1.out; omega
        clear hc hcat f1 hi0 HG1 HDONE hbt
        go_wp2_with fail
        go_meet
        case rel => exact ⟨b, _, rfl, rfl, hblz, HB.out, rfl⟩
  case rest =>
  obtain ⟨bl, k8, rfl, rfl, hblz, hbl, rfl⟩ := hcut
  have HBL := Lib.hid hbl
  clear hbl
  obtain ⟨w3, hw3⟩ : ∃ x, wc = x := ⟨_, rfl⟩
  rw [hw3] at HB03 d0 d1 d2 d5 ⊢
  clear hw3
  go_upto_block 3 with fail
  go_cut [9, 10, 11] from 65 to 98 (fun s9 s10 s11 wx => ∃ (b : ByteArray) (k l : Value), s9 = .string b ∧ k = s10 ∧ l = s11 ∧ b.size ≤ 9 ∧ (∀ c ∈ b.data.toList, CmB c) ∧ wx = w3)
  case first => as_aux_lemma =>
    have hbt := get_bt dc
    go_wp2_with fail
    go_loopg [9, 10] 10 (fun f s9 s10 wx => ∃ (i : Nat) (b : ByteArray), s9 = .string b ∧ s10 = .int .i64 (i : Int) ∧ f + i = 10 ∧ CmR w3 i b wx)
    case atStart => exact ⟨0, ⟨#[]⟩, rfl, rfl, rfl, by decide, by decide, fun c hc => absurd hc (by simp), rfl⟩
    case round =>
      obtain ⟨i, b, rfl, rfl, hg, hz, hi5, hb, rfl⟩ := hrel
      have HB := Lib.hid hb
      have HG1 := Lib.hid (And.intro hg (And.intro hz hi5))
      have hi0 : (0 : Int) ≤ i := by omega
      have f1 : IntKind.i64.wrap ((i : Int) + 1) = (i : Int) + 1 := IntWalk.i64_in _ (by omega)
      clear hb hg hi5
      go_upto_region 21 with fail
      go_cut [73] from 65 to 98 (fun s73 wx => s73 = .bool (decide (i < dc.size ∧ i < 9)) ∧ wx = w3)
      case first =>
        by_cases h1 : i < dc.size
        · have h1I : (i : Int) < (dc.size : Int) := by omega
          by_cases h2 : i < 9
          · have h2I : (i : Int) < 9 := by omega
            have hd : decide (i < dc.size ∧ i < 9) = true := decide_eq_true ⟨h1, h2⟩
            have HX := Lib.hid hd
            clear hd
            go_wp2_with fail
            go_meet
            case rel => exact ⟨by rw [HX.out], rfl⟩
          · have h2I : ¬ (i : Int) < 9 := by omega
            have hd : decide (i < dc.size ∧ i < 9) = false := decide_eq_false (fun h => h2 h.2)
            have HX := Lib.hid hd
            clear hd
            go_wp2_with fail
            go_meet
            case rel => exact ⟨by rw [HX.out], rfl⟩
        · have h1I : ¬ (i : Int) < (dc.size : Int) := by omega
          have hd : decide (i < dc.size ∧ i < 9) = false := decide_eq_false (fun h => h1 h.1)
          have HX := Lib.hid hd
          clear hd
          go_wp2_with fail
          go_meet
          case rel => exact ⟨by rw [HX.out], rfl⟩
      case rest =>
      obtain ⟨rfl, rfl⟩ := hcut
      by_cases hc : i < dc.size ∧ i < 9
      · rw [decide_eq_true hc]
        have HC := Lib.hid hc
        have h1I : (i : Int) < (dc.size : Int) := by omega
        have hbn := bt_nonneg dc i
        have hb8 := bt_le dc i
        have hbyt : ((dc[i]'hc.1).toNat : Int) = bt dc i := get_bt dc i hc.1
        obtain ⟨cc, hcc⟩ : ∃ x, dc[i]'hc.1 = x := ⟨_, rfl⟩
        rw [hcc] at hbyt
        have HBYT := Lib.hid hbyt
        have hcat : ¬ (9223372036854775807 < b.size + 1) := by omega
        clear hc hcc hbyt hz
        go_upto_region 24 with fail
        go_cut [93] from 80 to 98 (fun s93 wx => s93 = .bool (decide ((97 ≤ bt dc i ∧ bt dc i ≤ 122) ∨ bt dc i = 60 ∨ bt dc i = 38)) ∧ wx = wc)
        case first =>
          by_cases h1 : 97 ≤ bt dc i
          · by_cases h2 : bt dc i ≤ 122
            · have HX := Lib.hid (show decide ((97 ≤ bt dc i ∧ bt dc i ≤ 122) ∨ bt dc i = 60 ∨ bt dc i = 38) = true from decide_eq_true (.inl ⟨h1, h2⟩))
              go_wp2_with fail
              go_meet
              case rel => exact ⟨by rw [HX.out], rfl⟩
            · have HX := Lib.hid (show decide ((97 ≤ bt dc i ∧ bt dc i ≤ 122) ∨ bt dc i = 60 ∨ bt dc i = 38) = false from decide_eq_false (by omega))
              have n1 : (bt dc i == 60) = false := by simp; omega
              have n2 : (bt dc i == 38) = false := by simp; omega
              go_wp2_with fail
              go_meet
              case rel => exact ⟨by rw [HX.out], rfl⟩
          · by_cases h2 : bt dc i = 60
            · have HX := Lib.hid (show decide ((97 ≤ bt dc i ∧ bt dc i ≤ 122) ∨ bt dc i = 60 ∨ bt dc i = 38) = true from decide_eq_true (.inr (.inl h2)))
              have n1 : (bt dc i == 60) = true := by simpa using h2
              clear h2
              go_wp2_with fail
              go_meet
              case rel => exact ⟨by rw [HX.out], rfl⟩
            · have n1 : (bt dc i == 60) = false := by simpa using h2
              by_cases h3 : bt dc i = 38
              · have HX := Lib.hid (show decide ((97 ≤ bt dc i ∧ bt dc i ≤ 122) ∨ bt dc i = 60 ∨ bt dc i = 38) = true from decide_eq_true (.inr (.inr h3)))
                have n2 : (bt dc i == 38) = true := by simpa using h3
                clear h3
                go_wp2_with fail
                go_meet
                case rel => exact ⟨by rw [HX.out], rfl⟩
              · have n2 : (bt dc i == 38) = false := by simpa using h3
                have HX := Lib.hid (show decide ((97 ≤ bt dc i ∧ bt dc i ≤ 122) ∨ bt dc i = 60 ∨ bt dc i = 38) = false from decide_eq_false (by omega))
                go_wp2_with fail
                go_meet
                case rel => exact ⟨by rw [HX.out], rfl⟩
        case rest =>
        obtain ⟨rfl, rfl⟩ := hcut
        by_cases hp : (97 ≤ bt dc i ∧ bt dc i ≤ 122) ∨ bt dc i = 60 ∨ bt dc i = 38
        · rw [decide_eq_true hp]
          have hev : Utf8.encode (bt dc i) = ⟨#[cc]⟩ := by
            rw [enc_val (by unfold okRune; omega)]
            unfold encB
            rw [enc_ascii (by omega) (by omega)]
            have : (bt dc i).toNat = cc.toNat := by have := HBYT.out; omega
            rw [this]
            simp
          have HEV := Lib.hid hev
          have hes := enc_size (r := bt dc i) (by unfold okRune; omega)
          have hes2 := hes.2
          have hcat2 : ¬ (9223372036854775807 < b.size + (Utf8.encode (bt dc i)).size) := by have := HG1.out; omega
          have hcb : CmB cc := by
            have := HBYT.out
            refine ⟨by omega, by omega, ?_⟩
            rintro rfl
            have h45 : (45 : UInt8).toNat = 45 := rfl
            omega
          have HCB := Lib.hid hcb
          clear hp hev hes hcb
          go_wp2_with fail
          go_roundg (9 - i)
          case rel => exact ⟨i + 1, _, rfl, by simp, by have := HG1.out; have := HC.out; omega, ⟨by rw [HEV.out, ByteArray.size_append]; have h1 : (⟨#[cc]⟩ : ByteArray).size = 1 := rfl; have := HG1.out; omega, by have := HC.out; omega, fun c hc => by
              rw [HEV.out, str_add] at hc
              rcases List.mem_append.1 hc with hc | hc
              · exact HB.out c hc
              · rw [List.mem_singleton.1 (show c ∈ [cc] from hc)]; exact HCB.out, rfl⟩⟩
          case measure => have := HG1.out; have := HC.out; omega
        · rw [decide_eq_false hp]
          clear hp
          go_wp2_with fail
          go_roundg (9 - i)
          case rel => exact ⟨i + 1, _, rfl, by simp, by have := HG1.out; have := HC.out; omega, ⟨by have := HG1.out; omega, by have := HC.out; omega, HB.out, rfl⟩⟩
          case measure => have := HG1.out; have := HC.out; omega
      · rw [decide_eq_false hc]
        have hcz0 : b.size ≤ 9 := by have := HG1.out; omega
        clear hc f1 hi0 HG1 hbt hz
        go_wp2_with fail
        go_meet
        case rel => exact ⟨b, _, _, rfl, rfl, rfl, hcz0, HB.out, rfl⟩
  case rest =>
  obtain ⟨b, k10, k11, rfl, rfl, rfl, hcz0, hb, rfl⟩ := hcut
  have HB := Lib.hid hb
  clear hb
  obtain ⟨w3, hw3⟩ : ∃ x, wc = x := ⟨_, rfl⟩
  rw [hw3] at HB03 d0 d1 d2 d5 ⊢
  clear hw3
  obtain ⟨cm, hcm⟩ : ∃ x, (⟨#[60, 33, 45, 45]⟩ ++ b ++ ⟨#[45, 45, 62]⟩ : ByteArray) = x := ⟨_, rfl⟩
  have hcz : cm.size ≤ 16 := by
    rw [← hcm, ByteArray.size_append, ByteArray.size_append]
    have h1 : (⟨#[60, 33, 45, 45]⟩ : ByteArray).size = 4 := rfl
    have h2 : (⟨#[45, 45, 62]⟩ : ByteArray).size = 3 := rfl
    omega
  have HCM := Lib.hid (show CmOk cm.data.toList ∧ cm.data.toList ≠ [] from by
    have e : cm.data.toList = [60, 33, 45, 45] ++ (b.data.toList ++ [45, 45, 62]) := by rw [← hcm, str_add, str_add]; simp
    rw [e]
    exact ⟨.inr ⟨b.data.toList, HB.out, rfl⟩, by simp⟩)
  have HCE := Lib.hid hcm
  have hs1 : ¬ (9223372036854775807 < 4 + b.size) := by omega
  have hs2 : ¬ (9223372036854775807 < 4 + b.size + 3) := by omega
  clear HB hcm
  go_upto_region 26 with fail
  go_cut [9] from 99 to 101 (fun s9 wx => s9 = .string cm ∧ wx = w3)
  case first => as_aux_lemma =>
    go_wp2_with fail
    go_meet
    case rel => exact ⟨by rw [HCE.out], rfl⟩
  case rest =>
  obtain ⟨rfl, rfl⟩ := hcut
  clear hs1 hs2 hcz0
  obtain ⟨w3, hw3⟩ : ∃ x, wc = x := ⟨_, rfl⟩
  rw [hw3] at HB03 d0 d1 d2 d5 ⊢
  clear hw3
  obtain ⟨q, hq⟩ : ∃ x : UInt8, (if ap = true then 39 else 34) = x := ⟨_, rfl⟩
  have hq12 : q = 34 ∨ q = 39 := by rw [← hq]; cases ap <;> simp
  obtain ⟨qs, hqs⟩ : ∃ x : ByteArray, (⟨#[q]⟩ : ByteArray) = x := ⟨_, rfl⟩
  have hqz : qs.size = 1 := by rw [← hqs]; rfl
  have HQS := Lib.hid (And.intro hq (And.intro hqs hq12))
  have HQZ := Lib.hid hqz
  clear hq hqs hq12 hqz HCE
  go_upto_if 103 with fail
  go_cut [12] from 102 to 103 (fun s12 wx => s12 = .string qs ∧ wx = w3)
  case first => as_aux_lemma =>
    go_wp2_with fail
    · rename_i hap
      have HX := Lib.hid (show (⟨#[39]⟩ : ByteArray) = qs from by rw [← HQS.out.2.1, ← HQS.out.1, hap]; rfl)
      go_meet
      case rel => exact ⟨by rw [← HX.out], rfl⟩
    · rename_i hap
      have HX := Lib.hid (show (⟨#[34]⟩ : ByteArray) = qs from by rw [← HQS.out.2.1, ← HQS.out.1, hap]; rfl)
      go_meet
      case rel => exact ⟨by rw [← HX.out], rfl⟩
  case rest =>
  obtain ⟨rfl, rfl⟩ := hcut
  obtain ⟨w3, hw3⟩ : ∃ x, wc = x := ⟨_, rfl⟩
  rw [hw3] at HB03 d0 d1 d2 d5 ⊢
  clear hw3
  go_upto_region 30 with fail
  go_cut [13] from 104 to 115 (fun s13 wx => ∃ hh : ByteArray, HeadOk hh.data.toList ∧ hh.size ≤ 38 ∧ s13 = .string (hh ++ bl ++ cm ++ bl) ∧ wx = w3)
  case first => as_aux_lemma =>
    have h0 : 0 ≤ IntKind.u64.wrap hd := wrap_u64_nonneg hd
    obtain ⟨u, hu⟩ : ∃ u, IntKind.u64.wrap hd = u := ⟨_, rfl⟩
    rw [hu] at h0
    have hm : u.tmod 3 = 0 ∨ u.tmod 3 = 1 ∨ u.tmod 3 = 2 := by rw [Int.tmod_eq_emod_of_nonneg h0]; omega
    clear h0
    rcases hm with hm | hm | hm
    · have hix := idx30
      have e1 : ¬ (9223372036854775807 < bl.size + cm.size) := by omega
      have e2 : ¬ (9223372036854775807 < bl.size + cm.size + bl.size) := by omega
      go_wp2_with fail
      go_meet
      case rel => exact ⟨⟨#[]⟩, .inl rfl, by decide, by simp, rfl⟩
    · have hix := idx31
      have e0 : ¬ (9223372036854775807 < 21 + bl.size) := by omega
      have e1 : ¬ (9223372036854775807 < 21 + bl.size + cm.size) := by omega
      have e2 : ¬ (9223372036854775807 < 21 + bl.size + cm.size + bl.size) := by omega
      go_wp2_with fail
      go_meet
      case rel => exact ⟨⟨#[60, 63, 120, 109, 108, 32, 118, 101, 114, 115, 105, 111, 110, 61, 34, 49, 46, 48, 34, 63, 62]⟩, head1.1, head1.2, rfl, rfl⟩
    · have hix := idx32
      have e0 : ¬ (9223372036854775807 < 38 + bl.size) := by omega
      have e1 : ¬ (9223372036854775807 < 38 + bl.size + cm.size) := by omega
      have e2 : ¬ (9223372036854775807 < 38 + bl.size + cm.size + bl.size) := by omega
      go_wp2_with fail
      go_meet
      case rel => exact ⟨⟨#[60, 63, 120, 109, 108, 32, 118, 101, 114, 115, 105, 111, 110, 61, 34, 49, 46, 48, 34, 32, 101, 110, 99, 111, 100, 105, 110, 103, 61, 34, 85, 84, 70, 45, 56, 34, 63, 62]⟩, head2.1, head2.2, rfl, rfl⟩
  case rest =>
  obtain ⟨hh, hhd, hhz, rfl, rfl⟩ := hcut
  obtain ⟨w3, hw3⟩ : ∃ x, wc = x := ⟨_, rfl⟩
  rw [hw3] at HB03 d0 d1 d2 d5 ⊢
  clear hw3
  clear d0 d1 d2 d5
  obtain ⟨s0, hs0⟩ : ∃ x, hh ++ bl ++ cm ++ bl = x := ⟨_, rfl⟩
  have hs0z : s0.size ≤ 100 := by rw [← hs0, ByteArray.size_append, ByteArray.size_append, ByteArray.size_append]; omega
  have HS0 := Lib.hid hs0
  have HHD := Lib.hid hhd
  rw [hs0]
  clear hs0 hhd hhz
  have hlenB := bodyDW_len (q := q) (nu := nu) (sh := sh) (bl := bl.data.toList) (cm := cm.data.toList) (by have := size_list bl; omega) (by have := size_list cm; omega) (sk := false) HMAY.out
  obtain ⟨BT, hBT⟩ : ∃ x, bodyD (DW q nu sh bl.data.toList cm.data.toList) false lk = x := ⟨_, rfl⟩
  rw [hBT] at hlenB
  have hBTz : BT.length ≤ 20971520 := by have := HWT.out; omega
  have HBT := Lib.hid hBT
  have HV5 := Lib.hid (show TisArg w3 (.slice a0 n4 c0) l from HV4.out.on HB03.out)
  have HDC := Lib.hid (show ∀ W, Below w3.heap.size w3 W → W.heap[dd]? = some (.cells #[Value.string db, Value.string dc, Value.bool ap, Value.bool nu, Value.bool sh, Value.int .i64 hd] 43 (0, 0)) from fun W hW => (hW.block dd (Nat.lt_of_lt_of_le (lt_some HD0.out) HB03.out.size)).trans ((HB03.out.block dd (lt_some HD0.out)).trans HD0.out))
  have H0 := Lib.hid (show DsR w3 (DW q nu sh bl.data.toList cm.data.toList) (s0.data.toList ++ BT) lk 0 s0 w3 from ⟨by rw [List.drop_zero, HBT.out], ⟨[], 0, by rw [List.drop_zero]; exact HMAY.out⟩, Below.refl _ _⟩)
  clear hBT hlenB
  go_upto_block 5 with fail
  go_cut [13, 14, 15, 17] from 116 to 201 (fun s13 s14 s15 s17 wx => ∃ (sB : ByteArray) (k l m : Value), s13 = .string sB ∧ k = s14 ∧ l = s15 ∧ m = s17 ∧ sB.data.toList = s0.data.toList ++ BT ∧ Below w3.heap.size w3 wx)
  case first => as_aux_lemma =>
    go_wp2_with fail
    go_loopg [13, 14] (n4 + 1) (fun f s13 s14 wx => ∃ (i : Nat) (sB : ByteArray), s13 = .string sB ∧ s14 = .int .i64 (i : Int) ∧ f + i = n4 + 1 ∧ i ≤ n4 ∧ DsR w3 (DW q nu sh bl.data.toList cm.data.toList) (s0.data.toList ++ BT) lk i sB wx)
    case atStart => exact ⟨0, s0, rfl, rfl, rfl, Nat.zero_le _, H0.out⟩
    case round =>
      clear H0
      obtain ⟨i, sB, rfl, rfl, hg, hi, hR⟩ := hrel
      have HG3 := Lib.hid hg
      have hi0 : (0 : Int) ≤ i := by omega
      have hsz : sB.size ≤ 20971620 := by
        have h := congrArg List.length hR.e
        rw [List.length_append, List.length_append] at h
        have h1 := size_list sB
        have h2 := size_list s0
        omega
      by_cases hlt : i < n4
      · have f1 : IntKind.i64.wrap ((i : Int) + 1) = (i : Int) + 1 := IntWalk.i64_in _ (by omega)
        have hiI : (i : Int) < n4 := by omega
        have hil : i < l.length := by have := HLN.out; omega
        have hilk : i < lk.length := by rw [← HLK.out, List.length_map]; exact hil
        have hdr : lk.drop i = lk[i] :: lk.drop (i + 1) := List.drop_eq_getElem_cons hilk
        have hlki : lk[i] = toTk l[i] := by simp only [← HLK.out]; rw [List.getElem_map]
        obtain ⟨he, ⟨p, a, hm⟩, hB⟩ := hR
        rw [hdr, body_split, hlki] at he
        rw [hdr, hlki] at hm
        have hm2 : (tkMay p a (toTk l[i]) && tksMay (tkPile p (toTk l[i])) (toTk l[i]).kind (lk.drop (i + 1))) = true := hm
        rw [Bool.and_eq_true] at hm2
        obtain ⟨hm3, hm4⟩ := hm2
        have hwt := wtL_mem (f := wtTk) (List.getElem_mem hil)
        obtain ⟨⟨ms, hr, hml, hms⟩, _⟩ := HV5.out
        have him : i < ms.length := by omega
        obtain ⟨aa, ca, ea, hca⟩ := hr
        injection ea with ea1 ea2 ea3
        subst ea1
        clear ea2 ea3
        have hnext : ∀ (h : i + 1 < l.length) (W : World), Below w3.heap.size w3 W → ∃ g o, a0 = some ⟨g, o, none⟩ ∧ W.cell? ⟨g, o + (i + 1) * 5, none⟩ = some (.int .i64 (l[i + 1]'h).kind) := fun h W hW => by
          obtain ⟨g, o, e, _, hx⟩ := hca (i + 1) (by omega)
          refine ⟨g, o, e, ?_⟩
          have h1 := cell_kept (hx 0 (by decide)) hW
          have h2 := (hms (i + 1) (by omega) h).kind
          rw [← h2]
          simpa [TkEI] using h1
        have HNX := Lib.hid hnext
        obtain ⟨g1, o1, rfl, hg1, hc1⟩ := hca i him
        have t1 := hms i him hil
        obtain ⟨t, htt⟩ : ∃ t, l[i] = t := ⟨_, rfl⟩
        obtain ⟨m, hmm⟩ : ∃ m, ms[i] = m := ⟨_, rfl⟩
        rw [htt] at t1 he hm3 hm4 hwt
        rw [hmm] at t1 hc1
        obtain ⟨kd, nm, ta, tn, tc, tx, at1⟩ := m
        obtain ⟨x1, x2, x3, x4, x5, x6, _, _⟩ := t1
        simp only at x1 x2 x3 x4 x5 x6
        subst x1 x2 x3 x4
        have k0 : wr.cell? ⟨g1, o1 + i * 5, none⟩ = some (.int .i64 t.kind) := cell_kept (hc1 0 (by decide)) hB
        have k1 : wr.cell? ⟨g1, o1 + i * 5 + 1, none⟩ = some (.string t.name) := cell_kept (hc1 1 (by decide)) hB
        have k2 : wr.cell? ⟨g1, o1 + i * 5 + 2, none⟩ = some (.slice ta tn tc) := cell_kept (hc1 2 (by decide)) hB
        have k3 : wr.cell? ⟨g1, o1 + i * 5 + 3, none⟩ = some (.string t.text) := cell_kept (hc1 3 (by decide)) hB
        have k4 : wr.cell? ⟨g1, o1 + i * 5 + 4, none⟩ = some (.int .i64 t.at_) := cell_kept (hc1 4 (by decide)) hB
        have hatn : t.attrs.length = tn := by
          obtain ⟨a, c, e, _⟩ := x5
          injection e with _ e _
          exact e.symm
        have hTB : (wr.alloc (.cells #[.int .i64 t.kind, .string t.name, .slice ta tn tc, .string t.text, .int .i64 t.at_] 27)).heap[wr.heap.size]? = some (.cells #[.int .i64 t.kind, .string t.name, .slice ta tn tc, .string t.text, .int .i64 t.at_] 27 (0, 0)) := new_at _ _
        have hAL : Below wr.heap.size wr (wr.alloc (.cells #[.int .i64 t.kind, .string t.name, .slice ta tn tc, .string t.text, .int .i64 t.at_] 27)) := (Below.refl _ _).alloc (Nat.le_refl _) _
        have HTB := Lib.hid hTB; have HB8 := Lib.hid (hB.trans (hAL.mono hB.size)); have HLT := Lib.hid hlt
        have HX5 := Lib.hid x5; have HATN := Lib.hid hatn; have HE := Lib.hid he; have HM3 := Lib.hid hm3; have HM4 := Lib.hid hm4
        have hwt2 : t.name.size ≤ 1048576 ∧ t.text.size ≤ 1048576 ∧ wtL wtAt t.attrs ≤ 1048576 := by
          have h2 : t.name.size + t.text.size + wtL wtAt t.attrs + 3 ≤ wtL wtTk l := hwt
          have := HL4.out; omega
        obtain ⟨hnz, htz, haz⟩ := hwt2
        have htn : tn ≤ 1048576 := by have := wtL_len (f := wtAt) (k := 3) (fun x => by unfold wtAt; omega) t.attrs; omega
        have hqz := HQZ.out
        have hkinds : t.kind = 1 ∨ t.kind = 2 ∨ t.kind = 3 := by
          rcases tkMay_cases hm3 with ⟨h, _⟩ | ⟨h, _⟩ | ⟨h, _⟩
          · exact .inl h
          · exact .inr (.inl h)
          · exact .inr (.inr h)
        clear hc1 hg1 hca hms hml hmm htt x5 x6 hTB hAL hatn he hm3 hm4 hm hB hwt hdr hlki hil hilk him hnext hg hi hlt
        go_upto_region 35 with fail
        generalize hw8 : wr.alloc (.cells #[.int .i64 t.kind, .string t.name, .slice ta tn tc, .string t.text, .int .i64 t.at_] 27) = w8 at *
        generalize htb : wr.heap.size = tb at *
        clear hw8 htb k0 k1 k2 k3 k4
        have b0 : w8.cell? ⟨tb, 0, none⟩ = some (.int .i64 t.kind) := cellH HTB.out 0
        have b1 : w8.cell? ⟨tb, 1, none⟩ = some (.string t.name) := cellH HTB.out 1
        have b2 : w8.cell? ⟨tb, 2, none⟩ = some (.slice ta tn tc) := cellH HTB.out 2
        have b3 : w8.cell? ⟨tb, 3, none⟩ = some (.string t.text) := cellH HTB.out 3
        rcases hkinds with hk | hk | hk
        · -- a begin
          have he := HE.out
          rw [if_pos (show (toTk t).kind = 1 from hk)] at he
          have HE2 := Lib.hid he
          clear he
          rw [hk] at b0
          have HK := Lib.hid hk
          have hmc : nameB t.name = true ∧ attrsOk [] t.attrs = true := by
            rcases tkMay_cases HM3.out with ⟨_, _, h1, h2⟩ | ⟨h, _⟩ | ⟨h, _⟩
            · exact ⟨h1, h2⟩
            · exact absurd (h.symm.trans (show (toTk t).kind = 1 from hk)) (by decide)
            · exact absurd (h.symm.trans (show (toTk t).kind = 1 from hk)) (by decide)
          have hpar := attrsOk_parts hmc.2
          have hal := attrsDW_len (q := q) (nu := nu) (sh := sh) (bl := bl.data.toList) (cm := cm.data.toList) (by have := size_list bl; omega) hpar
          have HPAR := Lib.hid hpar
          obtain ⟨s1, hs1⟩ : ∃ x, sB ++ (⟨#[60]⟩ ++ t.name) = x := ⟨_, rfl⟩
          have hs1z : s1.size ≤ 30000000 := by
            rw [← hs1, ByteArray.size_append, ByteArray.size_append]
            have : (⟨#[60]⟩ : ByteArray).size = 1 := rfl
            omega
          have HS1 := Lib.hid hs1
          have hsum1 : ¬ (9223372036854775807 < 1 + t.name.size) := by omega
          have hsum2 : ¬ (9223372036854775807 < sB.size + (1 + t.name.size)) := by omega
          clear hmc hpar hk hs1
          go_upto_region 38 with fail
          go_cut [13] from 136 to 142 (fun s13 wx => s13 = .string s1 ∧ wx = w8)
          case first =>
            go_wp2_with fail
            go_meet
            case rel => exact ⟨by rw [HS1.out], rfl⟩
          case rest =>
          obtain ⟨rfl, rfl⟩ := hcut
          obtain ⟨w8, hw8⟩ : ∃ x, wc = x := ⟨_, rfl⟩
          rw [hw8] at HTB HB8 b0 b1 b2 b3 ⊢
          clear hw8
          go_upto_block 8 with fail
          go_cut [13, 17] from 146 to 167 (fun s13 s17 wx => ∃ (sC : ByteArray) (k : Value), s13 = .string sC ∧ k = s17 ∧ sC.data.toList = s1.data.toList ++ attrsD (DW q nu sh bl.data.toList cm.data.toList) t.attrs ∧ Below w8.heap.size w8 wx)
          case first =>
            go_wp2_with fail
            go_loopg [13, 146] (tn + 1) (fun f s13 s146 wx => ∃ (j : Nat) (sC : ByteArray), s13 = .string sC ∧ s146 = .int .i64 (j : Int) ∧ f + j = tn + 1 ∧ j ≤ tn ∧ sC.data.toList = s1.data.toList ++ attrsD (DW q nu sh bl.data.toList cm.data.toList) (t.attrs.take j) ∧ Below w8.heap.size w8 wx)
            case atStart => exact ⟨0, s1, rfl, rfl, rfl, Nat.zero_le _, by simp [attrsD], Below.refl _ _⟩
            case round =>
              clear b0 b1 b2 b3
              obtain ⟨j, sC, rfl, rfl, hgj, hj, hsC, hBj⟩ := hrel
              have HGJ := Lib.hid hgj; have HBJ := Lib.hid hBj
              have hj0 : (0 : Int) ≤ j := by omega
              by_cases hjt : j < tn
              · have f3 : IntKind.i64.wrap ((j : Int) + 1) = (j : Int) + 1 := IntWalk.i64_in _ (by omega)
                have hjI : (j : Int) < tn := by omega
                have hjl : j < t.attrs.length := by have := HATN.out; omega
                have hBB := HB8.out.trans (hBj.mono HB8.out.size)
                obtain ⟨a1, cc1, e1, hc⟩ := HX5.out.on hBB
                injection e1 with e1 e2 e3
                subst e1 e3
                clear e2
                obtain ⟨g2, o2, rfl, hg2, hc1⟩ := hc j hjl
                have hwa := wtL_mem (f := wtAt) (List.getElem_mem hjl)
                have hok := HPAR.out t.attrs[j] (List.getElem_mem _)
                have hTD : attrsD (DW q nu sh bl.data.toList cm.data.toList) (t.attrs.take (j + 1)) = attrsD (DW q nu sh bl.data.toList cm.data.toList) (t.attrs.take j) ++ attrD (DW q nu sh bl.data.toList cm.data.toList) t.attrs[j] := by rw [take_snoc hjl, attrsD_snoc]
                have hL1 := attrsDW_len (q := q) (nu := nu) (sh := sh) (bl := bl.data.toList) (cm := cm.data.toList) (by have := size_list bl; omega) (l := t.attrs.take j) (fun a ha => HPAR.out a (List.mem_of_mem_take ha))
                have hL2 := wtL_take wtAt t.attrs j
                obtain ⟨pr, hpr⟩ : ∃ pr, t.attrs[j] = pr := ⟨_, rfl⟩
                rw [hpr] at hc1 hwa hok hTD
                obtain ⟨K, V⟩ := pr
                have c0 : wr.cell? ⟨g2, o2 + j * 2, none⟩ = some (Value.string K) := hc1 0 (by decide)
                have c1 : wr.cell? ⟨g2, o2 + j * 2 + 1, none⟩ = some (Value.string V) := hc1 1 (by decide)
                have hKV : K.size ≤ 1048576 ∧ V.size ≤ 1048576 := by have hw : K.size + V.size + 3 ≤ wtL wtAt t.attrs := hwa; omega
                obtain ⟨hKs, hVs⟩ := hKV
                have hVt : takenE V = 0 := by
                  unfold attrOk at hok
                  simp only [Bool.and_eq_true, decide_eq_true_eq] at hok
                  exact hok.2
                have hsCz : sC.size ≤ 60000000 := by
                  have h := congrArg List.length hsC
                  rw [List.length_append] at h
                  have h1 := size_list sC
                  have h2 := size_list s1
                  omega
                have hel := encA_len nu hVt
                have hdrs := fun W => dressed_any V db dc ap nu sh hd W hVt hVs
                obtain ⟨ee, hee⟩ : ∃ x, (⟨(encA nu V).toArray⟩ : ByteArray) = x := ⟨_, rfl⟩
                rw [hee] at hdrs
                have heez : ee.size ≤ 10485760 := by rw [← hee]; show (encA nu V).length ≤ _; omega
                have HDRS := Lib.hid hdrs
                have HNW := Lib.hid (show sC.data.toList ++ ([32] ++ (bl.data.toList ++ (K.data.toList ++ ([61] ++ (qs.data.toList ++ (ee.data.toList ++ qs.data.toList)))))) = s1.data.toList ++ attrsD (DW q nu sh bl.data.toList cm.data.toList) (t.attrs.take (j + 1)) from by
                  rw [hTD, hsC, ← hee, ← HQS.out.2.1]
                  simp [attrD, DW])
                have hAL : Below wr.heap.size wr (wr.alloc (.cells #[.string K, .string V] 40)) := (Below.refl _ _).alloc (Nat.le_refl _) _
                have hKB : (wr.alloc (.cells #[.string K, .string V] 40)).heap[wr.heap.size]? = some (.cells #[.string K, .string V] 40 (0, 0)) := new_at _ _
                have HKB := Lib.hid hKB; have HB9 := Lib.hid (hBj.trans (hAL.mono hBj.size)); have HJT := Lib.hid hjt
                clear hc hc1 hg2 hwa hok hTD hL1 hL2 hpr hVt hel hdrs hee hAL hKB hBB hBj hgj hj hjl hsC hjt
                go_upto_region 42 with fail
                generalize hw9 : wr.alloc (.cells #[.string K, .string V] 40) = w9 at *
                generalize hab : wr.heap.size = ab at *
                clear hw9 c0 c1 hab
                have hson : ∀ w', Below w9.heap.size w9 w' → w'.cell? ⟨ab, 0, none⟩ = some (Value.string K) ∧ w'.cell? ⟨ab, 1, none⟩ = some (Value.string V) ∧ w'.cell? ⟨dd, 0, none⟩ = some (Value.string db) ∧ w'.cell? ⟨dd, 1, none⟩ = some (Value.string dc) ∧ w'.cell? ⟨dd, 2, none⟩ = some (Value.bool ap) ∧ w'.cell? ⟨dd, 3, none⟩ = some (Value.bool nu) ∧ w'.cell? ⟨dd, 4, none⟩ = some (Value.bool sh) ∧ w'.cell? ⟨dd, 5, none⟩ = some (Value.int .i64 hd) ∧ Below w9.heap.size w9 w' := fun w' hB' => by
                  have hk := (hB'.block ab (lt_some HKB.out)).trans HKB.out
                  have hdc := HDC.out w' (HB8.out.trans ((HB9.out.trans (hB'.mono HB9.out.size)).mono HB8.out.size))
                  exact ⟨cellH hk 0, cellH hk 1, cellH hdc 0, cellH hdc 1, cellH hdc 2, cellH hdc 3, cellH hdc 4, cellH hdc 5, hB'⟩
                have HSON := Lib.hid hson
                clear hson
                have hq0 : ¬ (9223372036854775807 < 1 + bl.size) := by omega
                have hq1 : ¬ (9223372036854775807 < 1 + bl.size + K.size) := by omega
                have hq2 : ¬ (9223372036854775807 < 1 + bl.size + K.size + 1) := by omega
                have hq3 : ¬ (9223372036854775807 < 1 + bl.size + K.size + 1 + 1) := by omega
                have hq4 : ¬ (9223372036854775807 < 1 + bl.size + K.size + 1 + 1 + ee.size) := by omega
                have hq5 : ¬ (9223372036854775807 < 1 + bl.size + K.size + 1 + 1 + ee.size + 1) := by omega
                have hq6 : ¬ (9223372036854775807 < sC.size + (1 + bl.size + K.size + 1 + 1 + ee.size + 1)) := by omega
                refine wp_region_held_drew (S := fun w' => w'.cell? ⟨ab, 0, none⟩ = some (Value.string K) ∧ w'.cell? ⟨ab, 1, none⟩ = some (Value.string V) ∧ w'.cell? ⟨dd, 0, none⟩ = some (Value.string db) ∧ w'.cell? ⟨dd, 1, none⟩ = some (Value.string dc) ∧ w'.cell? ⟨dd, 2, none⟩ = some (Value.bool ap) ∧ w'.cell? ⟨dd, 3, none⟩ = some (Value.bool nu) ∧ w'.cell? ⟨dd, 4, none⟩ = some (Value.bool sh) ∧ w'.cell? ⟨dd, 5, none⟩ = some (Value.int .i64 hd) ∧ Below w9.heap.size w9 w') (by kernel_rfl) (HSON.out _ (Below.refl _ _).drew) (fun hHeld => ?_)
                refine tkH 0 hHeld ?_
                refine tkH 1 hHeld ?_
                refine tkH 2 hHeld ?_
                refine tkH 3 hHeld ?_
                refine tkH 4 hHeld ?_
                refine tkH 5 hHeld ?_
                refine tkH 6 hHeld ?_
                refine tkH 7 hHeld ?_
                refine tkH 8 hHeld ?_
                refine tkH 9 hHeld ?_
                refine tkH 10 hHeld ?_
                refine tkH 11 hHeld ?_
                refine tkH 14 hHeld ?_
                refine wpAnyH_ready (rs := [12]) (by kernel_rfl) (by simp) ?_
                refine AllReadyH.cons rfl (fun K hK => ?_) AllReadyH.nil
                go_simp
                go_wp2_with (go_at_call 20; refine (HDRS.out w9.drew).mono ?_; rintro en wz ⟨rfl, hBz⟩; have hSz := HSON.out wz ((Below.refl _ _).drew.trans (hBz.mono (Nat.le_refl _))))
                refine hK.out _ _ (hSz) (fun hHeld => ?_)
                clear hK K
                refine tkH 13 hHeld ?_
                refine tkH 15 hHeld ?_
                refine tkH 16 hHeld ?_
                refine tkH 17 hHeld ?_
                refine wpAnyH_done (by kernel_rfl) ?_ _
                have HBZ := Lib.hid (HB9.out.trans (hSz.2.2.2.2.2.2.2.2.mono HB9.out.size))
                clear hHeld hSz hBz
                go_wp2_with fail
                go_roundg (tn - j)
                case rel => exact ⟨j + 1, _, rfl, by simp, by have := HGJ.out; have := HJT.out; omega, HJT.out, by rw [← HNW.out]; simp only [str_add, List.append_assoc], HBZ.out⟩
                case measure => have := HGJ.out; have := HJT.out; omega
              · have hjI : ¬ (j : Int) < tn := by omega
                have hall : t.attrs.take j = t.attrs := List.take_of_length_le (by have := HATN.out; omega)
                rw [hall] at hsC
                have HSC := Lib.hid hsC
                clear hsC hall hBj hgj hj hjt
                go_wp2_with fail
                go_meet
                case rel => exact ⟨sC, _, rfl, rfl, HSC.out, HBJ.out⟩

          case rest =>
          obtain ⟨sC, k17, rfl, rfl, hsC, hBC⟩ := hcut
          have hsCz : sC.size ≤ 60000000 := by
            have h := congrArg List.length hsC
            rw [List.length_append] at h
            have h1 := size_list sC
            have h2 := size_list s1
            omega
          have HSC := Lib.hid hsC
          have HBC := Lib.hid (HB8.out.trans (hBC.mono HB8.out.size))
          obtain ⟨sX, hsX⟩ : ∃ x, sC ++ bl = x := ⟨_, rfl⟩
          have hsXz : sX.size ≤ 60000010 := by rw [← hsX, ByteArray.size_append]; omega
          have HSX := Lib.hid hsX
          have hsum3 : ¬ (9223372036854775807 < sC.size + bl.size) := by omega
          obtain ⟨w9, hw9⟩ : ∃ x, wc = x := ⟨_, rfl⟩
          rw [hw9] at HBC ⊢
          clear hsC hBC hw9 hsX b0 b1 b2 b3
          go_upto_region 44 with fail
          go_cut [13] from 168 to 170 (fun s13 wx => s13 = .string sX ∧ wx = w9)
          case first =>
            go_wp2_with fail
            go_meet
            case rel => exact ⟨by rw [HSX.out], rfl⟩
          case rest =>
          obtain ⟨rfl, rfl⟩ := hcut
          have hdc := HDC.out wc HBC.out
          have z4 : wc.cell? ⟨dd, 4, none⟩ = some (.bool sh) := cellH hdc 4
          clear hdc hsum3
          -- is the next one an end?
          have hin : i + 1 < n4 := by
            by_cases h : i + 1 < n4
            · exact h
            · exfalso
              have hd : lk.drop (i + 1) = [] := List.drop_eq_nil_of_le (by rw [← HLK.out, List.length_map, HLN.out]; omega)
              have hm := HM4.out
              rw [hd] at hm
              have hm : (decide (tkPile p (toTk t) = []) && _) = true := hm
              rw [Bool.and_eq_true, decide_eq_true_eq] at hm
              have h1 := hm.1
              unfold tkPile at h1
              rw [if_pos (show (toTk t).kind = 1 from HK.out)] at h1
              simp at h1
          have hinl : i + 1 < l.length := by have := HLN.out; omega
          obtain ⟨nk, hnk⟩ : ∃ x : Int, (l[i + 1]'hinl).kind = x := ⟨_, rfl⟩
          have hne : nextEnd (lk.drop (i + 1)) = decide (nk = 2) := by
            have hl1 : i + 1 < lk.length := by rw [← HLK.out, List.length_map, HLN.out]; exact hin
            have hd : lk.drop (i + 1) = lk[i + 1] :: lk.drop (i + 1 + 1) := List.drop_eq_getElem_cons hl1
            rw [hd]
            have e : lk[i + 1].kind = nk := by
              rw [← hnk]
              simp only [← HLK.out]
              rw [List.getElem_map]
              rfl
            show decide (lk[i + 1].kind = 2) = _
            rw [e]
          obtain ⟨gx, ox, hga, hkx⟩ := HNX.out hinl wc HBC.out
          rw [hnk] at hkx
          injection hga with hga
          injection hga with hga1 hga2
          subst hga1 hga2
          have hinI : (i : Int) + 1 < (n4 : Int) := by omega
          have hi1 : (0 : Int) ≤ (i : Int) + 1 := by omega
          have hkx' : wc.cell? ⟨g1, o1 + (i + 1) * 5, none⟩ = some (.int .i64 nk) := hkx
          have hsum4 : ¬ (9223372036854775807 < sX.size + 2) := by omega
          have hsum5 : ¬ (9223372036854775807 < 1 + cm.size) := by omega
          have hsum6 : ¬ (9223372036854775807 < sX.size + (1 + cm.size)) := by omega
          have f2 : IntKind.i64.wrap ((i : Int) + 1 + 1) = (i : Int) + 1 + 1 := IntWalk.i64_in _ (by omega)
          have HNE := Lib.hid hne; have HIN := Lib.hid hin
          have HFIN := Lib.hid (show (60 :: (toTk t).name.data.toList) ++ (attrsD (DW q nu sh bl.data.toList cm.data.toList) (toTk t).attrs ++ bl.data.toList) = [60] ++ t.name.data.toList ++ attrsD (DW q nu sh bl.data.toList cm.data.toList) t.attrs ++ bl.data.toList from by show (60 :: t.name.data.toList) ++ _ = _; simp; rfl)
          clear hnk hne hkx hinl hin
          by_cases hshort : sh = true ∧ nk = 2
          · obtain ⟨hsh, hn2⟩ := hshort
            have HSH := Lib.hid hsh; have HN2 := Lib.hid hn2
            have z5 : wc.cell? ⟨dd, 4, none⟩ = some (.bool true) := by rw [z4, hsh]
            have hk5 : wc.cell? ⟨g1, o1 + (i + 1) * 5, none⟩ = some (.int .i64 2) := by rw [hkx', hn2]
            clear z4 hkx' hsh hn2
            go_wp2_with fail
            go_roundg (n4 - (i + 1))
            case rel =>
              refine ⟨i + 2, _, rfl, by simp; omega, by have := HG3.out; have := HIN.out; omega, by have := HIN.out; omega, ⟨?_, ?_, HBC.out⟩⟩
              · have h := HE2.out
                have hd : lk.drop (i + 1) = lk[i + 1]'(by rw [← HLK.out, List.length_map, HLN.out]; exact HIN.out) :: lk.drop (i + 2) := List.drop_eq_getElem_cons _
                rw [if_pos (show (sh && nextEnd (lk.drop (i + 1))) = true from by rw [HNE.out, HSH.out, decide_eq_true HN2.out]; rfl)] at h
                rw [hd, body_skip] at h
                rw [← h]
                simp only [str_add, ← HSX.out, HSC.out, ← HS1.out, List.append_assoc]
                rfl
              · have hm := HM4.out
                have hd : lk.drop (i + 1) = lk[i + 1]'(by rw [← HLK.out, List.length_map, HLN.out]; exact HIN.out) :: lk.drop (i + 2) := List.drop_eq_getElem_cons _
                rw [hd] at hm
                unfold tksMay at hm
                rw [Bool.and_eq_true] at hm
                exact ⟨_, _, hm.2⟩
            case measure => have := HG3.out; have := HIN.out; omega
          · have hno : (sh && nextEnd (lk.drop (i + 1))) = false := by
              rw [HNE.out]
              cases sh with
              | false => rfl
              | true => rw [decide_eq_false (fun h => hshort ⟨rfl, h⟩)]; rfl
            have HNO := Lib.hid (show sX.data.toList ++ ([62] ++ (cm.data.toList ++ bodyD (DW q nu sh bl.data.toList cm.data.toList) false (lk.drop (i + 1)))) = s0.data.toList ++ BT from by
              have h := HE2.out
              rw [hno] at h
              rw [if_neg (by simp)] at h
              rw [← h]
              simp only [str_add, ← HSX.out, HSC.out, ← HS1.out, List.append_assoc]
              rfl)
            have hcase : sh = false ∨ (sh = true ∧ nk ≠ 2) := by
              cases hs : sh with
              | false => exact .inl rfl
              | true => exact .inr ⟨rfl, fun h => hshort ⟨hs, h⟩⟩
            clear hno hshort
            rcases hcase with hsh | ⟨hsh, hn2⟩
            · have z5 : wc.cell? ⟨dd, 4, none⟩ = some (.bool false) := by rw [z4, hsh]
              clear z4 hkx' hsh
              go_wp2_with fail
              go_roundg (n4 - i)
              case rel =>
                refine ⟨i + 1, _, rfl, by simp, by have := HG3.out; have := HLT.out; omega, HLT.out, ⟨?_, ⟨_, _, HM4.out⟩, HBC.out⟩⟩
                rw [← HNO.out]
                simp only [str_add, List.append_assoc]
              case measure => have := HG3.out; have := HLT.out; omega
            · have z5 : wc.cell? ⟨dd, 4, none⟩ = some (.bool true) := by rw [z4, hsh]
              have hn2b : (nk == 2) = false := by simpa using hn2
              clear z4 hsh hn2
              go_wp2_with fail
              go_roundg (n4 - i)
              case rel =>
                refine ⟨i + 1, _, rfl, by simp, by have := HG3.out; have := HLT.out; omega, HLT.out, ⟨?_, ⟨_, _, HM4.out⟩, HBC.out⟩⟩
                rw [← HNO.out]
                simp only [str_add, List.append_assoc]
              case measure => have := HG3.out; have := HLT.out; omega
        · -- an end
          have he := HE.out
          rw [if_neg (show ¬ (toTk t).kind = 1 from by rw [show (toTk t).kind = t.kind from rfl, hk]; decide), if_pos (show (toTk t).kind = 2 from hk)] at he
          have HM5 := HM4
          rw [show (toTk t).kind = t.kind from rfl] at HM5
          have HE2 := Lib.hid he
          clear he
          rw [hk] at b0
          have HK := Lib.hid hk
          clear hk
          have hq0 : ¬ (9223372036854775807 < cm.size + 2) := by omega
          have hq1 : ¬ (9223372036854775807 < cm.size + 2 + t.name.size) := by omega
          have hq2 : ¬ (9223372036854775807 < cm.size + 2 + t.name.size + bl.size) := by omega
          have hq3 : ¬ (9223372036854775807 < cm.size + 2 + t.name.size + bl.size + 1) := by omega
          have hq4 : ¬ (9223372036854775807 < sB.size + (cm.size + 2 + t.name.size + bl.size + 1)) := by omega
          go_wp2_with fail
          go_roundg (n4 - i)
          case rel =>
            refine ⟨i + 1, _, rfl, by simp, by have := HG3.out; have := HLT.out; omega, HLT.out, ⟨?_, ⟨_, _, HM4.out⟩, HB8.out⟩⟩
            rw [← HE2.out]
            simp only [str_add, List.append_assoc]
            rfl
          case measure => have := HG3.out; have := HLT.out; omega
        · -- a text
          have he := HE.out
          rw [if_neg (show ¬ (toTk t).kind = 1 from by rw [show (toTk t).kind = t.kind from rfl, hk]; decide), if_neg (show ¬ (toTk t).kind = 2 from by rw [show (toTk t).kind = t.kind from rfl, hk]; decide)] at he
          have htk : takenE t.text = 0 := by
            rcases tkMay_cases HM3.out with ⟨h, _⟩ | ⟨h, _⟩ | ⟨_, _, _, _, h⟩
            · exact absurd (h.symm.trans (show (toTk t).kind = 3 from hk)) (by decide)
            · exact absurd (h.symm.trans (show (toTk t).kind = 3 from hk)) (by decide)
            · exact h
          have hel := encA_len nu htk
          have hdrs := fun W => dressed_any t.text db dc ap nu sh hd W htk htz
          obtain ⟨ee, hee⟩ : ∃ x, (⟨(encA nu t.text).toArray⟩ : ByteArray) = x := ⟨_, rfl⟩
          rw [hee] at hdrs
          have heez : ee.size ≤ 10485760 := by rw [← hee]; show (encA nu t.text).length ≤ _; omega
          have HEE := Lib.hid hee
          have HE2 := Lib.hid he
          have HDRS := Lib.hid hdrs
          have hdc := HDC.out w8 HB8.out
          have z0 : w8.cell? ⟨dd, 0, none⟩ = some (.string db) := cellH hdc 0
          have z1 : w8.cell? ⟨dd, 1, none⟩ = some (.string dc) := cellH hdc 1
          have z2 : w8.cell? ⟨dd, 2, none⟩ = some (.bool ap) := cellH hdc 2
          have z3 : w8.cell? ⟨dd, 3, none⟩ = some (.bool nu) := cellH hdc 3
          have z4 : w8.cell? ⟨dd, 4, none⟩ = some (.bool sh) := cellH hdc 4
          have z5 : w8.cell? ⟨dd, 5, none⟩ = some (.int .i64 hd) := cellH hdc 5
          clear he hel hee hdrs hdc htk
          rw [hk] at b0
          have HK := Lib.hid hk
          clear hk
          have hq0 : ¬ (9223372036854775807 < cm.size + ee.size) := by omega
          have hq1 : ¬ (9223372036854775807 < sB.size + (cm.size + ee.size)) := by omega
          go_wp2_with fail
          refine (HDRS.out _).mono ?_
          rintro e w9 ⟨rfl, hB9⟩
          have HB9 := Lib.hid (HB8.out.trans (hB9.mono HB8.out.size))
          clear hB9
          go_wp2_with fail
          go_roundg (n4 - i)
          case rel =>
            refine ⟨i + 1, _, rfl, by simp, by have := HG3.out; have := HLT.out; omega, HLT.out, ⟨?_, ⟨_, _, HM4.out⟩, HB9.out⟩⟩
            rw [← HE2.out, ← HEE.out]
            simp only [str_add, List.append_assoc]
            rfl
          case measure => have := HG3.out; have := HLT.out; omega
      · have hiI : ¬ (i : Int) < n4 := by omega
        have hdr : lk.drop i = [] := List.drop_eq_nil_of_le (by rw [← HLK.out, List.length_map, HLN.out]; omega)
        have he := hR.e
        rw [hdr] at he
        have HE := Lib.hid (show sB.data.toList = s0.data.toList ++ BT from by rw [← he]; exact (List.append_nil _).symm)
        have HB := Lib.hid hR.b
        clear hdr he hR hg hi hlt
        go_wp2_with fail
        go_meet
        case rel => exact ⟨sB, _, _, _, rfl, rfl, rfl, rfl, HE.out, HB.out⟩

  case rest =>
  obtain ⟨sB, k14, k15, k17, rfl, rfl, rfl, rfl, hsB, hB⟩ := hcut
  obtain ⟨w4, hw4⟩ : ∃ x, wc = x := ⟨_, rfl⟩
  rw [hw4] at hB ⊢
  clear hw4
  have hsBz : sB.size ≤ 20971720 := by
    have h := congrArg List.length hsB
    rw [List.length_append] at h
    have h1 := size_list sB
    have h2 := size_list s0
    omega
  obtain ⟨sZ, hsZ⟩ : ∃ x, sB ++ (bl ++ cm) = x := ⟨_, rfl⟩
  have HFILE := Lib.hid (show fileD (DW q nu sh bl.data.toList cm.data.toList) hh.data.toList lk = sZ.data.toList from by
    rw [← hsZ, str_add, str_add, hsB, ← HS0.out, ← HBT.out, str_add, str_add, str_add]
    unfold fileD
    simp only [DW, List.append_assoc])
  have hsZz : sZ.size ≤ 30000000 := by rw [← hsZ, ByteArray.size_append, ByteArray.size_append]; omega
  have HSZ := Lib.hid hsZ
  have HBw4 := Lib.hid (HB03.out.trans (hB.mono HB03.out.size))
  have hsm1 : ¬ (9223372036854775807 < bl.size + cm.size) := by omega
  have hsm2 : ¬ (9223372036854775807 < sB.size + (bl.size + cm.size)) := by omega
  clear hsB hB hsZ H0 HDC
  go_upto_region 51 with fail
  go_cut [13] from 202 to 206 (fun s13 wx => s13 = .string sZ ∧ wx = w4)
  case first => as_aux_lemma =>
    go_wp2_with fail
    go_meet
    case rel => exact ⟨by rw [HSZ.out], rfl⟩
  case rest =>
  obtain ⟨rfl, rfl⟩ := hcut
  obtain ⟨w4, hw4⟩ : ∃ x, wc = x := ⟨_, rfl⟩
  rw [hw4] at HBw4 ⊢
  clear hw4 hsm1 hsm2 hsBz
  by_cases hlong : 262144 < sZ.size
  · have hlI : (262144 : Int) < (sZ.size : Int) := by omega
    clear hlong
    go_wp2_with fail
    go_ret
    exact ⟨rfl, HB0.out.trans (HBw4.out.mono HB0.out.size)⟩
  have hlI : ¬ (262144 : Int) < (sZ.size : Int) := by omega
  have hfr := file_read (drw_ok HQS.out.2.2 nu sh HBL.out HCM.out.1 HCM.out.2) HHD.out HMAY.out HLONG.out (by
    have h := HFILE.out
    unfold DW at h
    rw [h]
    have := size_list sZ
    omega)
  rw [show fileD ⟨q, encA nu, bl.data.toList, cm.data.toList, sh⟩ hh.data.toList lk = sZ.data.toList from HFILE.out, mk_list] at hfr
  obtain ⟨L, e1, e2⟩ := hfr
  have hLlen : L.length = n4 := by
    have h := congrArg List.length e2
    rw [List.length_map, List.length_map] at h
    rw [h, ← HLK.out, List.length_map, HLN.out]
  have hnest := tokens_nest e1
  have HE2 := Lib.hid e2; have HLL := Lib.hid hLlen; have HSL := Lib.hid hnest.2.2.2.2; have HTX := Lib.hid e1
  have htok := tokens_any sZ w4 (HG.out.on (HB0.out.trans (HBw4.out.mono HB0.out.size)))
  have HTOK := Lib.hid htok
  clear e1 e2 hLlen hnest htok hlong
  go_wp2_with fail
  refine HTOK.out.mono ?_
  intro en w4' hE
  obtain ⟨vg, rfl, hO, hB4⟩ := hE.read
  have he0 : tkE sZ = 0 := by unfold tkE; rw [HTX.out]
  have ha0 : tkA sZ = 0 := by unfold tkA; rw [HTX.out]
  have hl0 : tkL sZ = L := by unfold tkL; rw [HTX.out]
  rw [he0, ha0]
  rw [hl0] at hO
  have HB34 := Lib.hid (HBw4.out.trans (hB4.mono HBw4.out.size))
  have HO := Lib.hid hO
  clear hE HTOK HTX he0 ha0 hl0 hB4 hO
  go_upto_region 55 with fail
  have hA := (Below.refl w4'.heap.size w4').alloc (Nat.le_refl _) (.cells #[.int .i64 0, .int .i64 0] 34)
  have hT := Blk.new w4' #[.int .i64 0, .int .i64 0] 34
  have HB5 := Lib.hid (HB34.out.trans (hA.mono HB34.out.size))
  have HO5 := Lib.hid (show OutAt w4.heap.size (w4'.alloc (.cells #[.int .i64 0, .int .i64 0] 34)) vg L from by
    obtain ⟨ms, h1, h2, h3⟩ := HO.out
    exact ⟨ms, h1.on hA, h2, fun j hj hj' => ⟨(h3 j hj hj').kind, (h3 j hj hj').name, (h3 j hj hj').text, (h3 j hj hj').at_, (h3 j hj hj').attrs.on hA⟩⟩)
  clear HO
  generalize w4'.alloc (.cells #[.int .i64 0, .int .i64 0] 34) = w5 at *
  generalize w4'.heap.size = sb at *
  have c0' : w5.cell? ⟨sb, 0, none⟩ = some (.int .i64 0) := hT.cell 0
  have c1' : w5.cell? ⟨sb, 1, none⟩ = some (.int .i64 0) := hT.cell 1
  clear hA hT
  obtain ⟨oa, on, oc, rfl⟩ : ∃ a n c, vg = .slice a n c := by
    obtain ⟨ms, h1, _⟩ := HO5.out
    exact h1.form'
  have hon : n4 = on := by
    obtain ⟨ms, h1, h2, _⟩ := HO5.out
    obtain ⟨a, c, e⟩ := h1.form
    injection e with _ e _
    rw [e, h2, HLL.out]
  subst hon
  have HV6 := Lib.hid (show TisArg w5 (.slice a0 n4 c0) l from HV4.out.on HB5.out)
  have hneq : ((n4 : Int) != (n4 : Int)) = false := by simp
  go_wp2_with fail
  go_loopg [227] (n4 + 1) (fun f s227 wx => ∃ i : Nat, s227 = .int .i64 (i : Int) ∧ f + i = n4 + 1 ∧ i ≤ n4 ∧ Below w5.heap.size w5 wx)
  case atStart => exact ⟨0, rfl, rfl, Nat.zero_le _, Below.refl _ _⟩
  case round =>
    clear c0' c1' hneq
    obtain ⟨i, rfl, hg, hi, hB⟩ := hrel
    have HG2 := Lib.hid hg; have HB := Lib.hid hB
    have hi0 : (0 : Int) ≤ i := by omega
    by_cases hlt : i < n4
    · have f1 : IntKind.i64.wrap ((i : Int) + 1) = (i : Int) + 1 := IntWalk.i64_in _ (by omega)
      have hiI : (i : Int) < n4 := by omega
      have hil : i < l.length := by have := HLN.out; omega
      have hiL : i < L.length := by have := HLL.out; omega
      have hilk : i < lk.length := by rw [← HLK.out, List.length_map]; exact hil
      have hd := hiL
      have hnorm := norm_at HE2.out i hiL hilk
      have hlki : lk[i] = toTk l[i] := by simp only [← HLK.out]; rw [List.getElem_map]
      rw [hlki] at hnorm
      have hkind := may_kinds HMAY.out lk[i] (List.getElem_mem _)
      rw [hlki] at hkind
      -- what was handed in
      obtain ⟨⟨ms, hr, hml, hms⟩, _⟩ := HV6.out
      have him : i < ms.length := by omega
      obtain ⟨aa, ca, ea, hca⟩ := hr
      injection ea with ea1 ea2 ea3
      subst ea1
      clear ea2 ea3
      obtain ⟨g1, o1, rfl, hg1, hc1⟩ := hca i him
      have t1 := hms i him hil
      -- what was read
      obtain ⟨gs, hgrow, hgl, hgs⟩ := HO5.out
      have hig : i < gs.length := by omega
      rcases hgrow.read with ⟨e6, _⟩ | ⟨g2, cap2, e6, _, hg2, _, _, hc2⟩
      · rw [e6] at hig; simp at hig
      injection e6 with e6 e7 e8
      subst e6 e8
      clear e7
      have u1 := hgs i hig hiL
      have hslim := HSL.out L[i] (List.getElem_mem _)
      obtain ⟨t, htt⟩ : ∃ t, l[i] = t := ⟨_, rfl⟩
      obtain ⟨u, huu⟩ : ∃ u, L[i] = u := ⟨_, rfl⟩
      obtain ⟨m, hm⟩ : ∃ m, ms[i] = m := ⟨_, rfl⟩
      obtain ⟨gm, hgm⟩ : ∃ m, gs[i] = m := ⟨_, rfl⟩
      have hci2 := hc2 i hig
      rw [htt] at t1 hnorm hkind
      rw [huu] at u1 hnorm hslim
      rw [hm] at t1 hc1
      rw [hgm] at u1 hci2
      obtain ⟨kd, nm, ta, tn, tc, tx, at1⟩ := m
      obtain ⟨x1, x2, x3, x4, x5, x6, _, _⟩ := t1
      simp only at x1 x2 x3 x4 x5 x6
      subst x1 x2 x3 x4
      obtain ⟨gk, gnm, ga, gn, gc, gtx, gat⟩ := gm
      obtain ⟨y1, y2, y3, y4, y5⟩ := u1
      simp only at y1 y2 y3 y4 y5
      subst y1 y2 y3 y4
      have c0 : wr.cell? ⟨g1, o1 + i * 5, none⟩ = some (.int .i64 t.kind) := cell_kept (hc1 0 (by decide)) hB
      have c1 : wr.cell? ⟨g1, o1 + i * 5 + 1, none⟩ = some (.string t.name) := cell_kept (hc1 1 (by decide)) hB
      have c2 : wr.cell? ⟨g1, o1 + i * 5 + 2, none⟩ = some (.slice ta tn tc) := cell_kept (hc1 2 (by decide)) hB
      have c3 : wr.cell? ⟨g1, o1 + i * 5 + 3, none⟩ = some (.string t.text) := cell_kept (hc1 3 (by decide)) hB
      have c4 : wr.cell? ⟨g1, o1 + i * 5 + 4, none⟩ = some (.int .i64 t.at_) := cell_kept (hc1 4 (by decide)) hB
      have hGC : ∀ W, Below w5.heap.size w5 W → W.cell? ⟨g2, i * 5, none⟩ = some (.int .i64 u.kind) ∧ W.cell? ⟨g2, i * 5 + 1, none⟩ = some (.string u.name) ∧ W.cell? ⟨g2, i * 5 + 2, none⟩ = some (.slice ga gn gc) ∧ W.cell? ⟨g2, i * 5 + 3, none⟩ = some (.string u.text) ∧ W.cell? ⟨g2, i * 5 + 4, none⟩ = some (.int .i64 (u.at_ : Int)) := fun W hW =>
        ⟨cell_kept (hci2 0 (by decide)) hW, cell_kept (hci2 1 (by decide)) hW, cell_kept (hci2 2 (by decide)) hW, cell_kept (hci2 3 (by decide)) hW, cell_kept (hci2 4 (by decide)) hW⟩
      have HGC := Lib.hid hGC
      have HX5 := Lib.hid x5; have HY5 := Lib.hid y5.at'
      have hTB : (wr.alloc (.cells #[.int .i64 t.kind, .string t.name, .slice ta tn tc, .string t.text, .int .i64 t.at_] 27)).heap[wr.heap.size]? = some (.cells #[.int .i64 t.kind, .string t.name, .slice ta tn tc, .string t.text, .int .i64 t.at_] 27 (0, 0)) := new_at _ _
      have hAL : Below wr.heap.size wr (wr.alloc (.cells #[.int .i64 t.kind, .string t.name, .slice ta tn tc, .string t.text, .int .i64 t.at_] 27)) := (Below.refl _ _).alloc (Nat.le_refl _) _
      have HTB := Lib.hid hTB; have HB8 := Lib.hid (hB.trans (hAL.mono hB.size)); have HLT := Lib.hid hlt
      have HZ8 := Lib.hid (show w5.heap.size ≤ wr.heap.size from hB.size)
      have HNORM := Lib.hid hnorm
      have huan : u.attrs.length ≤ 100000 := by have := wtL_len (f := wtAt) (k := 3) (fun x => by unfold wtAt; omega) u.attrs; omega
      clear hc1 hg1 hca hms hml hm htt huu hgm hci2 hc2 hg2 hgrow hgl hgs x5 x6 y5 hGC hTB hAL hd hnorm hlki hil hiL hilk him hig hB hg hi hlt hslim
      go_upto_region 60 with fail
      generalize hw8 : wr.alloc (.cells #[.int .i64 t.kind, .string t.name, .slice ta tn tc, .string t.text, .int .i64 t.at_] 27) = w8 at *
      generalize htb : wr.heap.size = tb at *
      clear hw8 htb c0 c1 c2 c3 c4
      have b0 : w8.cell? ⟨tb, 0, none⟩ = some (.int .i64 t.kind) := cellH HTB.out 0
      have hAQ : Below w8.heap.size w8 (w8.alloc (.cells #[.int .i64 t.kind, .string ⟨#[]⟩, .slice none 0 0, .string ⟨#[]⟩, .int .i64 0] 27)) := (Below.refl _ _).alloc (Nat.le_refl _) _
      have hQ : (w8.alloc (.cells #[.int .i64 t.kind, .string ⟨#[]⟩, .slice none 0 0, .string ⟨#[]⟩, .int .i64 0] 27)).heap[w8.heap.size]? = some (.cells #[.int .i64 t.kind, .string ⟨#[]⟩, .slice none 0 0, .string ⟨#[]⟩, .int .i64 0] 27 (0, 0)) := new_at _ _
      have HQ := Lib.hid hQ; have HB9 := Lib.hid (HB8.out.trans (hAQ.mono HB8.out.size))
      have HTB9 := Lib.hid ((hAQ.block tb (lt_some HTB.out)).trans HTB.out)
      have HQT := Lib.hid (show tb < w8.heap.size from lt_some HTB.out)
      clear hAQ hQ
      go_upto_region 61 with fail
      generalize hw9 : w8.alloc (.cells #[.int .i64 t.kind, .string ⟨#[]⟩, .slice none 0 0, .string ⟨#[]⟩, .int .i64 0] 27) = w9 at *
      generalize hqb : w8.heap.size = qb at *
      clear hw9 hqb b0
      have HZ9 := Lib.hid (show w5.heap.size ≤ tb ∧ tb < qb from ⟨HZ8.out, HQT.out⟩)
      have b0 : w9.cell? ⟨tb, 0, none⟩ = some (.int .i64 t.kind) := cellH HTB9.out 0
      have b1 : w9.cell? ⟨tb, 1, none⟩ = some (.string t.name) := cellH HTB9.out 1
      have b2 : w9.cell? ⟨tb, 2, none⟩ = some (.slice ta tn tc) := cellH HTB9.out 2
      have b3 : w9.cell? ⟨tb, 3, none⟩ = some (.string t.text) := cellH HTB9.out 3
      have z1 : w9.cell? ⟨qb, 1, none⟩ = some (.string ⟨#[]⟩) := cellH HQ.out 1
      have z2 : w9.cell? ⟨qb, 2, none⟩ = some (.slice none 0 0) := cellH HQ.out 2
      have z3 : w9.cell? ⟨qb, 3, none⟩ = some (.string ⟨#[]⟩) := cellH HQ.out 3
      have fq : ∀ j, w9.frozen? ⟨qb, j, none⟩ = false := fun j => freeH HQ.out j
      have fq1 := fq 1; have fq2 := fq 2; have fq3 := fq 3
      clear fq
      rcases hkind with hk | hk | hk
      · have hk' : t.kind = 1 := hk
        rw [hk'] at b0 HQ HTB HTB9
        have hu : u.kind = 1 ∧ u.name = t.name ∧ u.attrs = t.attrs ∧ u.text = ⟨#[]⟩ := by
          have h := HNORM.out
          unfold normT noAt toTk at h
          simp only [hk'] at h
          simp only [if_true] at h
          injection h with h1 h2 h3 h4 h5
          exact ⟨h1, h2, h3, h4⟩
        obtain ⟨hu1, hu2, hu3, hu4⟩ := hu
        have hQ9 : (((w9.setCell ⟨qb, 1, none⟩ (.string t.name)).setCell ⟨qb, 2, none⟩ (.slice ta tn tc)).drew).heap[qb]? = some (.cells #[.int .i64 1, .string t.name, .slice ta tn tc, .string ⟨#[]⟩, .int .i64 0] 27 (0, 0)) := setH (setH HQ.out 1 _) 2 _
        have hBQ : Below w5.heap.size w5 (((w9.setCell ⟨qb, 1, none⟩ (.string t.name)).setCell ⟨qb, 2, none⟩ (.slice ta tn tc)).drew) := (below_set (below_set HB9.out (by have := HZ9.out; omega)) (by have := HZ9.out; omega)).drew
        have HQ9 := Lib.hid hQ9; have HBQ := Lib.hid hBQ
        clear hQ9 hBQ
        have hS18 : w9.drew.cell? ⟨tb, 1, none⟩ = some (.string t.name) ∧ w9.drew.cell? ⟨tb, 2, none⟩ = some (.slice ta tn tc) := ⟨b1, b2⟩
        have HS18 := Lib.hid hS18
        have HN18 := Lib.hid (show tb ≠ qb from by have := HZ9.out; omega)
        clear hS18
        go_upto_region 64 with fail
        refine wp_region_held_drew (S := fun w' => w'.cell? ⟨tb, 1, none⟩ = some (Value.string t.name) ∧ w'.cell? ⟨tb, 2, none⟩ = some (Value.slice ta tn tc)) (by kernel_rfl) (HS18.out) (fun hHeld => ?_)
        refine tkH 0 hHeld ?_
        refine tkH 1 hHeld ?_
        refine tkH 2 hHeld ?_
        refine tkH 3 hHeld ?_
        refine tkH 4 hHeld ?_
        refine wpAnyH_ready (rs := [5]) (by kernel_rfl) (by simp) ?_
        refine AllReadyH.cons rfl (fun K hK => ?_) AllReadyH.nil
        go_simp
        refine hK.out _ _ ((⟨(World.cell?_setCell_far _ _ _ _ (fun e => HN18.out e.symm)).trans HS18.out.1, (World.cell?_setCell_far _ _ _ _ (fun e => HN18.out e.symm)).trans HS18.out.2⟩ : _ ∧ _)) (fun hHeld => ?_)
        clear hK K
        refine tkH 6 hHeld ?_
        refine wpAnyH_ready (rs := [7]) (by kernel_rfl) (by simp) ?_
        refine AllReadyH.cons rfl (fun K hK => ?_) AllReadyH.nil
        go_simp
        refine hK.out _ _ ((⟨(World.cell?_setCell_far _ _ _ _ (fun e => HN18.out e.symm)).trans ((World.cell?_setCell_far _ _ _ _ (fun e => HN18.out e.symm)).trans HS18.out.1), (World.cell?_setCell_far _ _ _ _ (fun e => HN18.out e.symm)).trans ((World.cell?_setCell_far _ _ _ _ (fun e => HN18.out e.symm)).trans HS18.out.2)⟩ : _ ∧ _)) (fun hHeld => ?_)
        clear hK K
        refine wpAnyH_done (by kernel_rfl) ?_ _
        go_upto_region 67 with fail
        generalize hwq : ((w9.setCell ⟨qb, 1, none⟩ (.string t.name)).setCell ⟨qb, 2, none⟩ (.slice ta tn tc)).drew = wq at *
        clear hwq b0 b1 b2 b3 z1 z2 z3 fq1 fq2 fq3
        have HSON := Lib.hid (show ∀ w', Below wq.heap.size wq w' → w'.cell? ⟨g2, i * 5, none⟩ = some (Value.int .i64 1) ∧ w'.cell? ⟨g2, i * 5 + 1, none⟩ = some (Value.string t.name) ∧ w'.cell? ⟨g2, i * 5 + 2, none⟩ = some (Value.slice ga gn gc) ∧ w'.cell? ⟨g2, i * 5 + 3, none⟩ = some (Value.string ⟨#[]⟩) ∧ w'.cell? ⟨g2, i * 5 + 4, none⟩ = some (Value.int .i64 (u.at_ : Int)) ∧ w'.cell? ⟨qb, 0, none⟩ = some (Value.int .i64 1) ∧ w'.cell? ⟨qb, 1, none⟩ = some (Value.string t.name) ∧ w'.cell? ⟨qb, 2, none⟩ = some (Value.slice ta tn tc) ∧ w'.cell? ⟨qb, 3, none⟩ = some (Value.string ⟨#[]⟩) ∧ w'.cell? ⟨qb, 4, none⟩ = some (Value.int .i64 0) ∧ Below wq.heap.size wq w' from fun w' hB' => by
          have h := HGC.out w' (HBQ.out.trans (hB'.mono HBQ.out.size))
          rw [hu1, hu2, hu4] at h
          have hq := (hB'.block qb (lt_some HQ9.out)).trans HQ9.out
          exact ⟨h.1, h.2.1, h.2.2.1, h.2.2.2.1, h.2.2.2.2, cellH hq 0, cellH hq 1, cellH hq 2, cellH hq 3, cellH hq 4, hB'⟩)
        have HONE := Lib.hid (show ∀ W, Below wq.heap.size wq W → Calls Tryz.prog 19 #[.agg #[.int .i64 1, .string t.name, .slice ga gn gc, .string ⟨#[]⟩, .int .i64 (u.at_ : Int)], .agg #[.int .i64 1, .string t.name, .slice ta tn tc, .string ⟨#[]⟩, .int .i64 0], .bool false] W fun e w' => e = .returned (.bool true) ∧ Below W.heap.size W w' from fun W hBW => by
          have hBB := HBQ.out.trans (hBW.mono HBQ.out.size)
          have hy := HY5.out.on hBB
          rw [hu3] at hy
          exact onei_yes W _ _ _ _ _ t.attrs _ 0 false (fun e => by cases e) hy (HX5.out.on hBB) (by rw [← hu3]; unfold maxLen; omega))
        refine wp_region_held_drew (S := fun w' => w'.cell? ⟨g2, i * 5, none⟩ = some (Value.int .i64 1) ∧ w'.cell? ⟨g2, i * 5 + 1, none⟩ = some (Value.string t.name) ∧ w'.cell? ⟨g2, i * 5 + 2, none⟩ = some (Value.slice ga gn gc) ∧ w'.cell? ⟨g2, i * 5 + 3, none⟩ = some (Value.string ⟨#[]⟩) ∧ w'.cell? ⟨g2, i * 5 + 4, none⟩ = some (Value.int .i64 (u.at_ : Int)) ∧ w'.cell? ⟨qb, 0, none⟩ = some (Value.int .i64 1) ∧ w'.cell? ⟨qb, 1, none⟩ = some (Value.string t.name) ∧ w'.cell? ⟨qb, 2, none⟩ = some (Value.slice ta tn tc) ∧ w'.cell? ⟨qb, 3, none⟩ = some (Value.string ⟨#[]⟩) ∧ w'.cell? ⟨qb, 4, none⟩ = some (Value.int .i64 0) ∧ Below wq.heap.size wq w') (by kernel_rfl) (HSON.out _ (Below.refl _ _).drew) (fun hHeld => ?_)
        refine tkH 0 hHeld ?_
        refine tkH 1 hHeld ?_
        refine tkH 2 hHeld ?_
        refine tkH 3 hHeld ?_
        refine tkH 4 hHeld ?_
        refine wpAnyH_ready (rs := [5]) (by kernel_rfl) (by simp) ?_
        refine AllReadyH.cons rfl (fun K hK => ?_) AllReadyH.nil
        go_simp
        go_wp2_with (go_at_call 19; refine (HONE.out wq.drew (Below.refl _ _).drew).mono ?_; rintro en wz ⟨rfl, hBz⟩; have hSz := HSON.out wz ((Below.refl _ _).drew.trans (hBz.mono (Nat.le_refl _))))
        refine hK.out _ _ (hSz) (fun hHeld => ?_)
        clear hK K
        refine tkH 6 hHeld ?_
        refine wpAnyH_done (by kernel_rfl) ?_ _
        have HBZ := Lib.hid (HBQ.out.trans (hSz.2.2.2.2.2.2.2.2.2.2.mono HBQ.out.size))
        have zz := hSz.2.2.2.2.1
        clear hHeld hSz hBz
        go_wp2_with fail
        go_roundg (n4 - i)
        case rel => exact ⟨i + 1, by simp, by have := HG2.out; have := HLT.out; omega, HLT.out, HBZ.out⟩
        case measure => have := HG2.out; have := HLT.out; omega
      · have hk' : t.kind = 2 := hk
        rw [hk'] at b0 HQ HTB HTB9
        have hu : u.kind = 2 ∧ u.name = t.name ∧ u.attrs = [] ∧ u.text = ⟨#[]⟩ := by
          have h := HNORM.out
          unfold normT noAt toTk at h
          simp only [hk'] at h
          simp only [n21, if_false, if_true] at h
          injection h with h1 h2 h3 h4 h5
          exact ⟨h1, h2, h3, h4⟩
        obtain ⟨hu1, hu2, hu3, hu4⟩ := hu
        have hQ9 : (w9.setCell ⟨qb, 1, none⟩ (.string t.name)).heap[qb]? = some (.cells #[.int .i64 2, .string t.name, .slice none 0 0, .string ⟨#[]⟩, .int .i64 0] 27 (0, 0)) := setH HQ.out 1 _
        have hBQ : Below w5.heap.size w5 (w9.setCell ⟨qb, 1, none⟩ (.string t.name)) := below_set HB9.out (by have := HZ9.out; omega)
        have HQ9 := Lib.hid hQ9; have HBQ := Lib.hid hBQ
        clear hQ9 hBQ
        go_upto_region 67 with fail
        generalize hwq : w9.setCell ⟨qb, 1, none⟩ (.string t.name) = wq at *
        clear hwq b0 b1 b2 b3 z1 z2 z3 fq1 fq2 fq3
        have HSON := Lib.hid (show ∀ w', Below wq.heap.size wq w' → w'.cell? ⟨g2, i * 5, none⟩ = some (Value.int .i64 2) ∧ w'.cell? ⟨g2, i * 5 + 1, none⟩ = some (Value.string t.name) ∧ w'.cell? ⟨g2, i * 5 + 2, none⟩ = some (Value.slice ga gn gc) ∧ w'.cell? ⟨g2, i * 5 + 3, none⟩ = some (Value.string ⟨#[]⟩) ∧ w'.cell? ⟨g2, i * 5 + 4, none⟩ = some (Value.int .i64 (u.at_ : Int)) ∧ w'.cell? ⟨qb, 0, none⟩ = some (Value.int .i64 2) ∧ w'.cell? ⟨qb, 1, none⟩ = some (Value.string t.name) ∧ w'.cell? ⟨qb, 2, none⟩ = some (Value.slice none 0 0) ∧ w'.cell? ⟨qb, 3, none⟩ = some (Value.string ⟨#[]⟩) ∧ w'.cell? ⟨qb, 4, none⟩ = some (Value.int .i64 0) ∧ Below wq.heap.size wq w' from fun w' hB' => by
          have h := HGC.out w' (HBQ.out.trans (hB'.mono HBQ.out.size))
          rw [hu1, hu2, hu4] at h
          have hq := (hB'.block qb (lt_some HQ9.out)).trans HQ9.out
          exact ⟨h.1, h.2.1, h.2.2.1, h.2.2.2.1, h.2.2.2.2, cellH hq 0, cellH hq 1, cellH hq 2, cellH hq 3, cellH hq 4, hB'⟩)
        have HONE := Lib.hid (show ∀ W, Below wq.heap.size wq W → Calls Tryz.prog 19 #[.agg #[.int .i64 2, .string t.name, .slice ga gn gc, .string ⟨#[]⟩, .int .i64 (u.at_ : Int)], .agg #[.int .i64 2, .string t.name, .slice none 0 0, .string ⟨#[]⟩, .int .i64 0], .bool false] W fun e w' => e = .returned (.bool true) ∧ Below W.heap.size W w' from fun W hBW => by
          have hBB := HBQ.out.trans (hBW.mono HBQ.out.size)
          have hy := HY5.out.on hBB
          rw [hu3] at hy
          exact onei_yes W _ _ _ _ _ [] _ 0 false (fun e => by cases e) hy (GAt.nil' _ _) (by simp))
        refine wp_region_held_drew (S := fun w' => w'.cell? ⟨g2, i * 5, none⟩ = some (Value.int .i64 2) ∧ w'.cell? ⟨g2, i * 5 + 1, none⟩ = some (Value.string t.name) ∧ w'.cell? ⟨g2, i * 5 + 2, none⟩ = some (Value.slice ga gn gc) ∧ w'.cell? ⟨g2, i * 5 + 3, none⟩ = some (Value.string ⟨#[]⟩) ∧ w'.cell? ⟨g2, i * 5 + 4, none⟩ = some (Value.int .i64 (u.at_ : Int)) ∧ w'.cell? ⟨qb, 0, none⟩ = some (Value.int .i64 2) ∧ w'.cell? ⟨qb, 1, none⟩ = some (Value.string t.name) ∧ w'.cell? ⟨qb, 2, none⟩ = some (Value.slice none 0 0) ∧ w'.cell? ⟨qb, 3, none⟩ = some (Value.string ⟨#[]⟩) ∧ w'.cell? ⟨qb, 4, none⟩ = some (Value.int .i64 0) ∧ Below wq.heap.size wq w') (by kernel_rfl) (HSON.out _ (Below.refl _ _).drew) (fun hHeld => ?_)
        refine tkH 0 hHeld ?_
        refine tkH 1 hHeld ?_
        refine tkH 2 hHeld ?_
        refine tkH 3 hHeld ?_
        refine tkH 4 hHeld ?_
        refine wpAnyH_ready (rs := [5]) (by kernel_rfl) (by simp) ?_
        refine AllReadyH.cons rfl (fun K hK => ?_) AllReadyH.nil
        go_simp
        go_wp2_with (go_at_call 19; refine (HONE.out wq.drew (Below.refl _ _).drew).mono ?_; rintro en wz ⟨rfl, hBz⟩; have hSz := HSON.out wz ((Below.refl _ _).drew.trans (hBz.mono (Nat.le_refl _))))
        refine hK.out _ _ (hSz) (fun hHeld => ?_)
        clear hK K
        refine tkH 6 hHeld ?_
        refine wpAnyH_done (by kernel_rfl) ?_ _
        have HBZ := Lib.hid (HBQ.out.trans (hSz.2.2.2.2.2.2.2.2.2.2.mono HBQ.out.size))
        have zz := hSz.2.2.2.2.1
        clear hHeld hSz hBz
        go_wp2_with fail
        go_roundg (n4 - i)
        case rel => exact ⟨i + 1, by simp, by have := HG2.out; have := HLT.out; omega, HLT.out, HBZ.out⟩
        case measure => have := HG2.out; have := HLT.out; omega
      · have hk' : t.kind = 3 := hk
        rw [hk'] at b0 HQ HTB HTB9
        have hu : u.kind = 3 ∧ u.name = ⟨#[]⟩ ∧ u.attrs = [] ∧ u.text = t.text := by
          have h := HNORM.out
          unfold normT noAt toTk at h
          simp only [hk'] at h
          rw [if_neg n31, if_neg n32] at h
          injection h with h1 h2 h3 h4 h5
          exact ⟨h1, h2, h3, h4⟩
        obtain ⟨hu1, hu2, hu3, hu4⟩ := hu
        have hQ9 : (w9.setCell ⟨qb, 3, none⟩ (.string t.text)).heap[qb]? = some (.cells #[.int .i64 3, .string ⟨#[]⟩, .slice none 0 0, .string t.text, .int .i64 0] 27 (0, 0)) := setH HQ.out 3 _
        have hBQ : Below w5.heap.size w5 (w9.setCell ⟨qb, 3, none⟩ (.string t.text)) := below_set HB9.out (by have := HZ9.out; omega)
        have HQ9 := Lib.hid hQ9; have HBQ := Lib.hid hBQ
        clear hQ9 hBQ
        go_upto_region 67 with fail
        generalize hwq : w9.setCell ⟨qb, 3, none⟩ (.string t.text) = wq at *
        clear hwq b0 b1 b2 b3 z1 z2 z3 fq1 fq2 fq3
        have HSON := Lib.hid (show ∀ w', Below wq.heap.size wq w' → w'.cell? ⟨g2, i * 5, none⟩ = some (Value.int .i64 3) ∧ w'.cell? ⟨g2, i * 5 + 1, none⟩ = some (Value.string ⟨#[]⟩) ∧ w'.cell? ⟨g2, i * 5 + 2, none⟩ = some (Value.slice ga gn gc) ∧ w'.cell? ⟨g2, i * 5 + 3, none⟩ = some (Value.string t.text) ∧ w'.cell? ⟨g2, i * 5 + 4, none⟩ = some (Value.int .i64 (u.at_ : Int)) ∧ w'.cell? ⟨qb, 0, none⟩ = some (Value.int .i64 3) ∧ w'.cell? ⟨qb, 1, none⟩ = some (Value.string ⟨#[]⟩) ∧ w'.cell? ⟨qb, 2, none⟩ = some (Value.slice none 0 0) ∧ w'.cell? ⟨qb, 3, none⟩ = some (Value.string t.text) ∧ w'.cell? ⟨qb, 4, none⟩ = some (Value.int .i64 0) ∧ Below wq.heap.size wq w' from fun w' hB' => by
          have h := HGC.out w' (HBQ.out.trans (hB'.mono HBQ.out.size))
          rw [hu1, hu2, hu4] at h
          have hq := (hB'.block qb (lt_some HQ9.out)).trans HQ9.out
          exact ⟨h.1, h.2.1, h.2.2.1, h.2.2.2.1, h.2.2.2.2, cellH hq 0, cellH hq 1, cellH hq 2, cellH hq 3, cellH hq 4, hB'⟩)
        have HONE := Lib.hid (show ∀ W, Below wq.heap.size wq W → Calls Tryz.prog 19 #[.agg #[.int .i64 3, .string ⟨#[]⟩, .slice ga gn gc, .string t.text, .int .i64 (u.at_ : Int)], .agg #[.int .i64 3, .string ⟨#[]⟩, .slice none 0 0, .string t.text, .int .i64 0], .bool false] W fun e w' => e = .returned (.bool true) ∧ Below W.heap.size W w' from fun W hBW => by
          have hBB := HBQ.out.trans (hBW.mono HBQ.out.size)
          have hy := HY5.out.on hBB
          rw [hu3] at hy
          exact onei_yes W _ _ _ _ _ [] _ 0 false (fun e => by cases e) hy (GAt.nil' _ _) (by simp))
        refine wp_region_held_drew (S := fun w' => w'.cell? ⟨g2, i * 5, none⟩ = some (Value.int .i64 3) ∧ w'.cell? ⟨g2, i * 5 + 1, none⟩ = some (Value.string ⟨#[]⟩) ∧ w'.cell? ⟨g2, i * 5 + 2, none⟩ = some (Value.slice ga gn gc) ∧ w'.cell? ⟨g2, i * 5 + 3, none⟩ = some (Value.string t.text) ∧ w'.cell? ⟨g2, i * 5 + 4, none⟩ = some (Value.int .i64 (u.at_ : Int)) ∧ w'.cell? ⟨qb, 0, none⟩ = some (Value.int .i64 3) ∧ w'.cell? ⟨qb, 1, none⟩ = some (Value.string ⟨#[]⟩) ∧ w'.cell? ⟨qb, 2, none⟩ = some (Value.slice none 0 0) ∧ w'.cell? ⟨qb, 3, none⟩ = some (Value.string t.text) ∧ w'.cell? ⟨qb, 4, none⟩ = some (Value.int .i64 0) ∧ Below wq.heap.size wq w') (by kernel_rfl) (HSON.out _ (Below.refl _ _).drew) (fun hHeld => ?_)
        refine tkH 0 hHeld ?_
        refine tkH 1 hHeld ?_
        refine tkH 2 hHeld ?_
        refine tkH 3 hHeld ?_
        refine tkH 4 hHeld ?_
        refine wpAnyH_ready (rs := [5]) (by kernel_rfl) (by simp) ?_
        refine AllReadyH.cons rfl (fun K hK => ?_) AllReadyH.nil
        go_simp
        go_wp2_with (go_at_call 19; refine (HONE.out wq.drew (Below.refl _ _).drew).mono ?_; rintro en wz ⟨rfl, hBz⟩; have hSz := HSON.out wz ((Below.refl _ _).drew.trans (hBz.mono (Nat.le_refl _))))
        refine hK.out _ _ (hSz) (fun hHeld => ?_)
        clear hK K
        refine tkH 6 hHeld ?_
        refine wpAnyH_done (by kernel_rfl) ?_ _
        have HBZ := Lib.hid (HBQ.out.trans (hSz.2.2.2.2.2.2.2.2.2.2.mono HBQ.out.size))
        have zz := hSz.2.2.2.2.1
        clear hHeld hSz hBz
        go_wp2_with fail
        go_roundg (n4 - i)
        case rel => exact ⟨i + 1, by simp, by have := HG2.out; have := HLT.out; omega, HLT.out, HBZ.out⟩
        case measure => have := HG2.out; have := HLT.out; omega
    · have hiI : ¬ (i : Int) < n4 := by omega
      clear hg hi hlt
      go_wp2_with fail
      go_ret
      exact ⟨rfl, HB0.out.trans ((HB5.out.trans (HB.out.mono HB5.out.size)).mono HB0.out.size)⟩


end
end Go.Proofs.YtdipbfchlopeaaaGreatDoor
