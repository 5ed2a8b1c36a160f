/-
  Plain facts on Go's own conversions: the runes of a text, and the text of its runes. No program in sight.
-/
import Derived.Test.YtdihhicjaaekhaaDoorUtfQ
import Derived.Test.YtdihhicjaaekhaaDoorUtfT
import Derived.Laws.IdiomStrings
import Derived.Laws.Cover4
import Derived.OpenShut
namespace Go.Proofs.YtdihhicjaaekhaaDoor
open Go.RowKit Go.PlainAid

/-- The runes that a range tells, from a place on. -/
def runesF (s : ByteArray) : Nat → Nat → List Int
  | 0, _ => []
  | f + 1, pos => if pos < s.size then ((Utf8.decode s pos).1 : Int) :: runesF s f (pos + wd s pos) else []
theorem runesF_length (s : ByteArray) : ∀ f pos, (runesF s f pos).length = cntF s f pos
  | 0, _ => rfl
  | f + 1, pos => by
    simp only [runesF, cntF]
    split
    · rw [List.length_cons, runesF_length s f]; omega
    · rfl
theorem runesFrom_eq (s : ByteArray) : ∀ f pos acc, Conv.runesFrom s f pos acc = acc ++ ((runesF s f pos).map (Value.int .i32)).toArray
  | 0, _, acc => by simp [Conv.runesFrom, runesF]
  | f + 1, pos, acc => by
    unfold Conv.runesFrom
    simp only [runesF]
    split
    · show Conv.runesFrom s f (pos + wd s pos) _ = _
      rw [runesFrom_eq s f]
      apply Array.toList_inj.1
      simp
    · simp
theorem runesFrom_size (s : ByteArray) : (Conv.runesFrom s s.size 0 #[]).size = cnt s 0 := by
  rw [runesFrom_eq]
  simp [runesF_length, cnt]

theorem u8_eq {x y : UInt8} (h : (x.toNat : Int) = y.toNat) : x = y := UInt8.toNat_inj.1 (by omega)
theorem ext_bytes (t s : ByteArray) (i : Nat) (hn : i + t.size ≤ s.size) (h : ∀ k, k < t.size → bt t k = bt s (i + k)) : t = s.extract i (i + t.size) := by
  have hz : (s.extract i (i + t.size)).size = t.size := by simp; omega
  apply ByteArray.ext
  apply Array.ext
  · exact hz.symm
  · intro k h1 h2
    have h1' : k < t.size := h1
    have e := h k h1'
    rw [← get_bt t k h1', ← get_bt s (i + k) (by omega)] at e
    have := u8_eq e
    show t[k]'h1' = (s.extract i (i + t.size))[k]'h2
    rw [ByteArray.getElem_extract]
    exact this

theorem ofNat_u8 (x : Nat) (h : x < 256) : ((UInt8.ofNat x).toNat : Int) = x := by simp; omega
theorem enc_ext1 (s : ByteArray) (i x0 : Nat) (hx0 : x0 < 256) (hn : i + 1 ≤ s.size) (e0 : bt s i = x0) : (⟨#[UInt8.ofNat x0]⟩ : ByteArray) = s.extract i (i + 1) :=
  ext_bytes _ s i hn fun k hk => by
    have hk' : k < 1 := hk
    obtain rfl : k = 0 := by omega
    rw [Nat.add_zero, e0]; exact ofNat_u8 x0 hx0
theorem enc_ext2 (s : ByteArray) (i x0 x1 : Nat) (hx0 : x0 < 256) (hx1 : x1 < 256) (hn : i + 2 ≤ s.size) (e0 : bt s i = x0) (e1 : bt s (i + 1) = x1) : (⟨#[UInt8.ofNat x0, UInt8.ofNat x1]⟩ : ByteArray) = s.extract i (i + 2) :=
  ext_bytes _ s i hn fun k hk => by
    have hk' : k < 2 := hk
    rcases (show k = 0 ∨ k = 1 by omega) with rfl | rfl
    · rw [Nat.add_zero, e0]; exact ofNat_u8 x0 hx0
    · rw [e1]; exact ofNat_u8 x1 hx1
theorem enc_ext3 (s : ByteArray) (i x0 x1 x2 : Nat) (hx0 : x0 < 256) (hx1 : x1 < 256) (hx2 : x2 < 256) (hn : i + 3 ≤ s.size) (e0 : bt s i = x0) (e1 : bt s (i + 1) = x1) (e2 : bt s (i + 2) = x2) : (⟨#[UInt8.ofNat x0, UInt8.ofNat x1, UInt8.ofNat x2]⟩ : ByteArray) = s.extract i (i + 3) :=
  ext_bytes _ s i hn fun k hk => by
    have hk' : k < 3 := hk
    rcases (show k = 0 ∨ k = 1 ∨ k = 2 by omega) with rfl | rfl | rfl
    · rw [Nat.add_zero, e0]; exact ofNat_u8 x0 hx0
    · rw [e1]; exact ofNat_u8 x1 hx1
    · rw [e2]; exact ofNat_u8 x2 hx2
theorem enc_ext4 (s : ByteArray) (i x0 x1 x2 x3 : Nat) (hx0 : x0 < 256) (hx1 : x1 < 256) (hx2 : x2 < 256) (hx3 : x3 < 256) (hn : i + 4 ≤ s.size) (e0 : bt s i = x0) (e1 : bt s (i + 1) = x1) (e2 : bt s (i + 2) = x2) (e3 : bt s (i + 3) = x3) :
    (⟨#[UInt8.ofNat x0, UInt8.ofNat x1, UInt8.ofNat x2, UInt8.ofNat x3]⟩ : ByteArray) = s.extract i (i + 4) :=
  ext_bytes _ s i hn fun k hk => by
    have hk' : k < 4 := hk
    rcases (show k = 0 ∨ k = 1 ∨ k = 2 ∨ k = 3 by omega) with rfl | rfl | rfl | rfl
    · rw [Nat.add_zero, e0]; exact ofNat_u8 x0 hx0
    · rw [e1]; exact ofNat_u8 x1 hx1
    · rw [e2]; exact ofNat_u8 x2 hx2
    · rw [e3]; exact ofNat_u8 x3 hx3

theorem valid_of (c : Nat) (h : c < 55296 ∨ (57343 < c ∧ c ≤ 1114111)) : Utf8.valid (c : Int) = true := by
  rw [validRune_eq]; exact decide_eq_true (by omega)
theorem enc1 (c : Nat) (h : c < 128) : Utf8.encode (c : Int) = ⟨#[UInt8.ofNat c]⟩ := by
  unfold Utf8.encode
  simp only [valid_of c (by omega), if_true, Int.toNat_natCast]
  rw [if_pos h]
theorem enc2 (c : Nat) (h : 128 ≤ c) (h' : c < 2048) : Utf8.encode (c : Int) = ⟨#[UInt8.ofNat (192 + c / 64), UInt8.ofNat (128 + c % 64)]⟩ := by
  unfold Utf8.encode
  simp only [valid_of c (by omega), if_true, Int.toNat_natCast]
  rw [if_neg (by omega), if_pos h']
theorem enc3 (c : Nat) (h : 2048 ≤ c) (h' : c < 65536) (hv : c < 55296 ∨ 57343 < c) : Utf8.encode (c : Int) = ⟨#[UInt8.ofNat (224 + c / 4096), UInt8.ofNat (128 + c / 64 % 64), UInt8.ofNat (128 + c % 64)]⟩ := by
  unfold Utf8.encode
  simp only [valid_of c (by omega), if_true, Int.toNat_natCast]
  rw [if_neg (by omega), if_neg (by omega), if_pos h']
theorem enc4 (c : Nat) (h : 65536 ≤ c) (h' : c ≤ 1114111) : Utf8.encode (c : Int) = ⟨#[UInt8.ofNat (240 + c / 262144), UInt8.ofNat (128 + c / 4096 % 64), UInt8.ofNat (128 + c / 64 % 64), UInt8.ofNat (128 + c % 64)]⟩ := by
  unfold Utf8.encode
  simp only [valid_of c (by omega), if_true, Int.toNat_natCast]
  rw [if_neg (by omega), if_neg (by omega), if_neg (by omega)]

/-- A form's rune is written as that form. -/
theorem encode_at (s : ByteArray) (i : Nat) (h : i < s.size) (hr : ¬ rn s i < 0) : Utf8.encode ((Utf8.decode s i).1 : Int) = s.extract i (i + wd s i) := by
  have h1 := formS_wd s i
  have h2 := rn_right s i hr
  have hin := wd_in s i h
  generalize hc : (Utf8.decode s i).1 = c at *
  unfold rn at h2 hr
  generalize wd s i = n at *
  have l0 := bt_nonneg s i; have u0 := bt_le s i
  have l1 := bt_nonneg s (i + 1); have u1 := bt_le s (i + 1)
  have l2 := bt_nonneg s (i + 2); have u2 := bt_le s (i + 2)
  have l3 := bt_nonneg s (i + 3); have u3 := bt_le s (i + 3)
  unfold formS formI at h1 h2 hr
  by_cases e0 : bt s i < 128
  · simp only [if_pos e0] at h1 h2
    obtain rfl : n = 1 := by omega
    rw [enc1 c (by omega)]
    exact enc_ext1 s i c (by omega) hin h2
  simp only [if_neg e0] at h1 h2 hr
  by_cases e1 : 194 ≤ bt s i ∧ bt s i ≤ 223
  · simp only [if_pos e1] at h1 h2 hr
    by_cases g : 2 ≤ s.size - i ∧ bt s (i + 1) / 64 = 2
    · simp only [if_pos g] at h1 h2
      obtain rfl : n = 2 := by omega
      rw [enc2 c (by omega) (by omega)]
      exact enc_ext2 s i _ _ (by omega) (by omega) hin (by omega) (by omega)
    · simp only [if_neg g] at hr; omega
  simp only [if_neg e1] at h1 h2 hr
  by_cases e2 : 224 ≤ bt s i ∧ bt s i ≤ 239
  · simp only [if_pos e2] at h1 h2 hr
    by_cases g : 3 ≤ s.size - i ∧ bt s (i + 1) / 64 = 2 ∧ bt s (i + 2) / 64 = 2 ∧ 2048 ≤ (bt s i % 16 * 64 + bt s (i + 1) % 64) * 64 + bt s (i + 2) % 64 ∧ ((bt s i % 16 * 64 + bt s (i + 1) % 64) * 64 + bt s (i + 2) % 64 < 55296 ∨ 57343 < (bt s i % 16 * 64 + bt s (i + 1) % 64) * 64 + bt s (i + 2) % 64)
    · simp only [if_pos g] at h1 h2
      obtain rfl : n = 3 := by omega
      rw [enc3 c (by omega) (by omega) (by omega)]
      exact enc_ext3 s i _ _ _ (by omega) (by omega) (by omega) hin (by omega) (by omega) (by omega)
    · simp only [if_neg g] at hr; omega
  simp only [if_neg e2] at h1 h2 hr
  by_cases e3 : 240 ≤ bt s i ∧ bt s i ≤ 244
  · simp only [if_pos e3] at h1 h2 hr
    by_cases g : 4 ≤ s.size - i ∧ bt s (i + 1) / 64 = 2 ∧ bt s (i + 2) / 64 = 2 ∧ bt s (i + 3) / 64 = 2 ∧ 65536 ≤ ((bt s i % 8 * 64 + bt s (i + 1) % 64) * 64 + bt s (i + 2) % 64) * 64 + bt s (i + 3) % 64 ∧ ((bt s i % 8 * 64 + bt s (i + 1) % 64) * 64 + bt s (i + 2) % 64) * 64 + bt s (i + 3) % 64 ≤ 1114111
    · simp only [if_pos g] at h1 h2
      obtain rfl : n = 4 := by omega
      rw [enc4 c (by omega) (by omega)]
      exact enc_ext4 s i _ _ _ _ (by omega) (by omega) (by omega) (by omega) hin (by omega) (by omega) (by omega) (by omega)
    · simp only [if_neg g] at hr; omega
  · simp only [if_neg e3] at hr; omega
theorem enc_size (s : ByteArray) (i : Nat) (h : i < s.size) (hr : ¬ rn s i < 0) : (Utf8.encode ((Utf8.decode s i).1 : Int)).size = wd s i := by
  rw [encode_at s i h hr]
  have := wd_in s i h
  simp; omega

theorem fold_enc (s : ByteArray) : ∀ f pos (acc : ByteArray), pos ≤ s.size → s.size ≤ pos + f → brkF s f pos = -1 → acc = s.extract 0 pos → (runesF s f pos).foldl (fun r n => r ++ Utf8.encode n) acc = s
  | 0, pos, acc, h1, h2, _, ha => by
    obtain rfl : pos = s.size := by omega
    rw [ha]; simp [runesF]
  | f + 1, pos, acc, h1, h2, hb, ha => by
    simp only [runesF, brkF] at hb ⊢
    by_cases hp : pos < s.size
    · rw [if_pos hp] at hb ⊢
      by_cases hn : rn s pos < 0
      · rw [if_pos hn] at hb; omega
      · rw [if_neg hn] at hb
        have hw := wd_pos s pos hp
        have hi := wd_in s pos hp
        rw [List.foldl_cons]
        refine fold_enc s f (pos + wd s pos) _ hi (by omega) hb ?_
        rw [ha, encode_at s pos hp hn]
        apply ByteArray.ext
        apply Array.toList_inj.1
        rw [ByteArray.data_append, Array.toList_append, Lib.extract_data, Lib.extract_data, Lib.extract_data]
        simp only [List.drop_zero, Nat.sub_zero]
        rw [show pos + wd s pos - pos = wd s pos by omega, List.take_add]
    · rw [if_neg hp]
      obtain rfl : pos = s.size := by omega
      rw [ha]; simp
theorem runes_back (s : ByteArray) (h : brk s 0 = -1) : runesBytes (runesF s s.size 0) = s :=
  fold_enc s s.size 0 ByteArray.empty (by omega) (by omega) (by unfold brk at h; simpa using h) (by simp)

/-- '[]rune(s)': a new row that holds the text's runes. -/
theorem conv_runes {P : Program} (w : World) (src dst e : TypeId) (s : ByteArray) (hs : P.underlying src = some .string) (hd : P.underlying dst = some (.slice e)) (he : P.underlying e = some (.int .i32)) (hz : s.size ≤ 8192) :
    ∃ (cap : Nat) (w1 : World), (convert src dst (.string s)).run P w = .ok (.slice (some ⟨w.heap.size, 0, none⟩) (cnt s 0) cap) w1 ∧ Below w.heap.size w w1 ∧
      (brk s 0 = -1 → (convert dst src (.slice (some ⟨w.heap.size, 0, none⟩) (cnt s 0) cap)).run P w1 = .ok (.string s) w1) := by
  have h46 : (Conv.runesFrom s s.size 0 #[]).size ≤ 70368744177664 := by
    rw [runesFrom_size]; have := cnt_le s 0; omega
  have h := run_runes_of_string (P := P) w src dst e s hs hd he h46
  rw [runesFrom_size] at h
  refine ⟨_, _, h, ((Below.refl _ w).drew).alloc (by simp) _, fun hb => ?_⟩
  have hl : (runesF s s.size 0).length = cnt s 0 := runesF_length s _ _
  have hq := run_convert_runes (P := P) (w.drew.alloc (.cells (Conv.runesFrom s s.size 0 #[] ++ Array.replicate (grownCap w (cnt s 0) 0 e - cnt s 0) (.int .i32 0)) e)) dst src e ⟨w.heap.size, 0, none⟩ (cnt s 0) (grownCap w (cnt s 0) 0 e) (runesF s s.size 0) (by omega) hd he hs (fun j hj => by
    have ha : (⟨w.heap.size, 0, none⟩ : Addr).add j = ⟨w.drew.heap.size, j, none⟩ := by rw [Go.WideShapes.add_plain, Nat.zero_add]; rfl
    rw [ha, World.cell?_alloc_mark, runesFrom_eq, Array.getElem?_append_left (by simp; omega)]
    simp [List.getElem?_eq_getElem hj, List.getD])
  rw [hq, List.take_of_length_le (by omega), runes_back s hb]
end Go.Proofs.YtdihhicjaaekhaaDoor
