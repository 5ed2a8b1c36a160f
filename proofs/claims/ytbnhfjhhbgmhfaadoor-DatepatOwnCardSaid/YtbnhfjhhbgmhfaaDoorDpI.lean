/-
  Patterns of dates: the library's words for IndexFunc, LastIndexFunc and ReplaceAll, in plain words. No program in sight.
-/
import Derived.Test.YtbnhfjhhbgmhfaaDoorDpL
import Derived.Test.YtbnhfjhhbgmhfaaDoorUtfQ
import Derived.Shelf.Strings.Replace
import Derived.Shelf.Strings.FuncGrows
namespace Go.Proofs.YtbnhfjhhbgmhfaaDoor
open Go.PlainAid

theorem dec_lo (s : ByteArray) (i : Nat) (h : bt s i < 128) : (Utf8.decode s i).1 = (bt s i).toNat ∧ (Utf8.decode s i).2 = 1 := by
  have h' := broke_decode s i
  have h0 := bt_nonneg s i
  unfold broke formS formI at h'
  rw [if_pos h] at h'
  split at h'
  · have := congrArg Prod.fst h'
    simp at this
    omega
  · have h1 := congrArg Prod.fst h'
    have h2 := congrArg Prod.snd h'
    simp at h1 h2
    omega
theorem dec_hi (s : ByteArray) (i : Nat) (h : 128 ≤ bt s i) : 128 ≤ (Utf8.decode s i).1 ∧ ∀ j, i ≤ j → j < i + (Utf8.decode s i).2 → 128 ≤ bt s j := by
  have h' := broke_decode s i
  unfold broke at h'
  split at h'
  · rename_i hq
    exact ⟨by omega, fun j h1 h2 => by rw [show j = i by omega]; exact h⟩
  unfold formS formI at h'
  rw [if_neg (by omega)] at h'
  generalize Utf8.decode s i = d at *
  obtain ⟨r, n⟩ := d
  simp only at h'
  have key : ∀ j, i ≤ j → j < i + n → n ≤ 4 → (n ≤ 1 ∨ 128 ≤ bt s (i + 1)) → (n ≤ 2 ∨ 128 ≤ bt s (i + 2)) → (n ≤ 3 ∨ 128 ≤ bt s (i + 3)) → 128 ≤ bt s j := by
    intro j h1 h2 h3 h4 h5 h6
    rcases (by omega : j = i ∨ j = i + 1 ∨ j = i + 2 ∨ j = i + 3) with rfl | rfl | rfl | rfl
    · exact h
    · omega
    · omega
    · omega
  repeat' split at h'
  all_goals
    (have e1 := congrArg Prod.fst h'
     have e2 := congrArg Prod.snd h'
     simp only at e1 e2
     clear h'
     first
       | omega
       | exact ⟨by omega, fun j h1 h2 => key j h1 h2 (by omega) (by omega) (by omega) (by omega)⟩)
theorem bLetter_hi {b : Int} (h : 128 ≤ b) : bLetter b = false := by unfold bLetter; exact decide_eq_false (by omega)

/-- Is a rune a letter (an ASCII one)? -/
def pLet (r : Nat) : Bool := bLetter (r : Int)
theorem fstF_skip (s : ByteArray) : ∀ (n i g : Nat), (∀ j, i ≤ j → j < i + n → 128 ≤ bt s j) → fstF s (n + g) i = fstF s g (i + n)
  | 0, i, g, _ => by rw [Nat.zero_add]; rfl
  | n + 1, i, g, h => by
    rw [show n + 1 + g = (n + g) + 1 by omega]
    show (if _ then _ else _) = _
    rw [bLetter_hi (h i (Nat.le_refl _) (by omega)), if_neg (by decide), fstF_skip s n (i + 1) g (fun j h1 h2 => h j (by omega) (by omega)), show i + 1 + n = i + (n + 1) by omega]
theorem idx_fst (s : ByteArray) : ∀ (f pos : Nat), s.size ≤ pos + f → pos ≤ s.size → Lib.idxFuncFrom pLet true s f pos = fstF s (s.size - pos) pos
  | 0, pos, h, hp => by rw [show s.size - pos = 0 by omega]; rfl
  | f + 1, pos, h, hp => by
    show (if _ then _ else _) = _
    by_cases hlt : pos < s.size
    · have hwp := wd_pos s pos hlt
      have hwi := wd_in s pos hlt
      unfold wd at hwp hwi
      rw [if_pos hlt]
      by_cases hb : bt s pos < 128
      · have hd := dec_lo s pos hb
        have e : ((Utf8.decode s pos).1 : Int) = bt s pos := by have := bt_nonneg s pos; omega
        rw [show s.size - pos = (s.size - (pos + 1)) + 1 by omega]
        show _ = (if _ then _ else _)
        have e' : pLet (Utf8.decode s pos).1 = bLetter (bt s pos) := by unfold pLet; rw [e]
        rw [e', hd.2, idx_fst s f (pos + 1) (by omega) (by omega)]
      · have hd := dec_hi s pos (by omega)
        have hn : ¬ pLet (Utf8.decode s pos).1 = true := by
          unfold pLet
          rw [bLetter_hi (by omega)]
          decide
        rw [if_neg hn, idx_fst s f _ (by omega) (by omega), show s.size - pos = (Utf8.decode s pos).2 + (s.size - (pos + (Utf8.decode s pos).2)) by omega, fstF_skip s _ _ _ hd.2]
    · rw [if_neg hlt, show s.size - pos = 0 by omega]
      rfl
theorem idxFunc_fst (s : ByteArray) : Lib.idxFunc pLet true s = fstL s := by
  unfold Lib.idxFunc fstL
  rw [idx_fst s s.size 0 (by omega) (by omega)]
  rfl

theorem getD_bt (s : ByteArray) (k : Nat) : (((s.data.toList).getD k 0).toNat : Int) = bt s k := by rw [Lib.getD_get!, get!_bt]
theorem lstF_skip (s : ByteArray) : ∀ (n i : Nat), n ≤ i → (∀ j, i - n ≤ j → j < i → 128 ≤ bt s j) → lstF s i = lstF s (i - n)
  | 0, i, _, _ => rfl
  | n + 1, 0, h, _ => absurd h (by omega)
  | n + 1, i + 1, h, hj => by
    show (if _ then _ else _) = _
    rw [bLetter_hi (hj i (by omega) (by omega)), if_neg (by decide), lstF_skip s n i (by omega) (fun j h1 h2 => hj j (by omega) (by omega)), show i + 1 - (n + 1) = i - n by omega]
theorem declast_hi (s B : ByteArray) (i st : Nat) (hst : st < i) (hb0 : ∀ k, bt B k = if st + k < i then bt s (st + k) else 0) (hb : 128 ≤ bt s (i - 1)) :
    128 ≤ (if st + (Utf8.decode B 0).2 = i then Utf8.decode B 0 else (Utf8.runeError, 1)).1 ∧ ∀ j, i - (if st + (Utf8.decode B 0).2 = i then Utf8.decode B 0 else (Utf8.runeError, 1)).2 ≤ j → j < i → 128 ≤ bt s j := by
  by_cases hc : st + (Utf8.decode B 0).2 = i
  · rw [if_pos hc]
    by_cases hb2 : bt B 0 < 128
    · have := (dec_lo B 0 hb2).2
      have h1 := hb0 0
      rw [if_pos (by omega), show st + 0 = i - 1 by omega] at h1
      omega
    · refine ⟨(dec_hi B 0 (by omega)).1, fun j h1 h2 => ?_⟩
      have := (dec_hi B 0 (by omega)).2 (j - st) (by omega) (by omega)
      rw [hb0, if_pos (by omega), show st + (j - st) = j by omega] at this
      exact this
  · rw [if_neg hc]
    refine ⟨by decide, fun j h1 h2 => ?_⟩
    rw [show j = i - 1 by simp only at h1; omega]
    exact hb
theorem declast (s : ByteArray) (i : Nat) (h0 : 0 < i) (hi : i ≤ s.size) :
    (bt s (i - 1) < 128 → Lib.decodeLastL (s.data.toList.take i) = ((bt s (i - 1)).toNat, 1)) ∧
    (128 ≤ bt s (i - 1) → 128 ≤ (Lib.decodeLastL (s.data.toList.take i)).1 ∧ 1 ≤ (Lib.decodeLastL (s.data.toList.take i)).2 ∧ (Lib.decodeLastL (s.data.toList.take i)).2 ≤ i ∧ ∀ j, i - (Lib.decodeLastL (s.data.toList.take i)).2 ≤ j → j < i → 128 ≤ bt s j) := by
  have hlen : (s.data.toList.take i).length = i := by rw [List.length_take, Array.length_toList]; show min i s.size = i; omega
  have hne : s.data.toList.take i ≠ [] := fun h => by rw [h] at hlen; simp at hlen; omega
  have hg : ∀ k, k < i → ((((s.data.toList.take i).getD k 0).toNat : Nat) : Int) = bt s k := by
    intro k hk
    rw [← getD_bt s k]
    simp only [List.getD_eq_getElem?_getD, List.getElem?_take, if_pos hk]
  have hwd := Lib.decodeLastL_width (s.data.toList.take i) (by omega)
  have hst := Lib.lastStart_lt _ hne
  have hgl := hg (i - 1) (by omega)
  rw [hlen] at hwd hst
  refine ⟨fun hb => ?_, fun hb => ?_⟩
  · unfold Lib.decodeLastL
    rw [if_neg hne, hlen, if_pos (by omega)]
    exact Prod.ext (by simp only; omega) rfl
  · have hx := declast_hi s ⟨((s.data.toList.take i).drop (Lib.lastStart (s.data.toList.take i))).toArray⟩ i (Lib.lastStart (s.data.toList.take i)) hst (fun k => by
      rw [← getD_bt]
      show ((((s.data.toList.take i).drop (Lib.lastStart (s.data.toList.take i))).getD k 0).toNat : Int) = _
      by_cases hk : Lib.lastStart (s.data.toList.take i) + k < i
      · rw [if_pos hk, ← hg _ hk]
        simp only [List.getD_eq_getElem?_getD, List.getElem?_drop]
      · rw [if_neg hk, List.getD_eq_getElem?_getD, List.getElem?_eq_none (by rw [List.length_drop, hlen]; omega)]
        rfl) hb
    have he : Lib.decodeLastL (s.data.toList.take i) = if Lib.lastStart (s.data.toList.take i) + (Utf8.decode ⟨((s.data.toList.take i).drop (Lib.lastStart (s.data.toList.take i))).toArray⟩ 0).2 = i then Utf8.decode ⟨((s.data.toList.take i).drop (Lib.lastStart (s.data.toList.take i))).toArray⟩ 0 else (Utf8.runeError, 1) := by
      unfold Lib.decodeLastL
      rw [if_neg hne, hlen, if_neg (by omega)]
      rfl
    rw [← he] at hx
    exact ⟨hx.1, hwd.1, hwd.2, hx.2⟩
theorem idx_lst (s : ByteArray) : ∀ (f i : Nat), i ≤ f → i ≤ s.size → Lib.lastIdxFuncFrom pLet true s f i = lstF s i
  | 0, i, h, _ => by rw [show i = 0 by omega]; rfl
  | f + 1, i, h, hi => by
    show (if _ then _ else _) = _
    by_cases h0 : 0 < i
    · rw [if_pos h0]
      have hd := declast s i h0 hi
      by_cases hb : bt s (i - 1) < 128
      · rw [hd.1 hb]
        have e : (((bt s (i - 1)).toNat : Nat) : Int) = bt s (i - 1) := by have := bt_nonneg s (i - 1); omega
        have e' : pLet (bt s (i - 1)).toNat = bLetter (bt s (i - 1)) := by unfold pLet; rw [e]
        simp only [e']
        rw [idx_lst s f (i - 1) (by omega) (by omega)]
        obtain ⟨k, rfl⟩ : ∃ k, i = k + 1 := ⟨i - 1, by omega⟩
        rfl
      · obtain ⟨h1, h2, h3, h4⟩ := hd.2 (by omega)
        have hn : ¬ pLet (Lib.decodeLastL (s.data.toList.take i)).1 = true := by
          unfold pLet
          rw [bLetter_hi (by omega)]
          decide
        rw [if_neg hn, idx_lst s f _ (by omega) (by omega), ← lstF_skip s _ i h3 h4]
    · rw [if_neg h0, show i = 0 by omega]
      rfl
theorem idxFunc_lst (s : ByteArray) : Lib.lastIdxFunc pLet true s = lstL s := idx_lst s s.size s.size (Nat.le_refl _) (Nat.le_refl _)

theorem index_ne {b c : UInt8} {l : List UInt8} (h : b ≠ c) : Lib.index (b :: l) [c] = if Lib.index l [c] == -1 then -1 else Lib.index l [c] + 1 := by
  have hp : ([c] : List UInt8).isPrefixOf (b :: l) = false := by simp [List.isPrefixOf, Ne.symm h]
  rw [Lib.index, hp]; simp
theorem replaceK_ne {b c : UInt8} {new : List UInt8} (h : b ≠ c) : ∀ (k : Nat) (l : List UInt8), k ≤ Lib.count l [c] → Lib.replaceK [c] new k (b :: l) = b :: Lib.replaceK [c] new k l
  | 0, l, _ => rfl
  | k + 1, l, hk => by
    obtain ⟨i, hi⟩ := Lib.index_of_count (s := l) (old := [c]) (by omega)
    have hi' : Lib.index (b :: l) [c] = ((i + 1 : Nat) : Int) := by
      rw [index_ne h, hi, if_neg (by simp)]
      omega
    rw [Lib.replaceK_hit _ _ _ _ _ hi', Lib.replaceK_hit _ _ _ _ _ hi]
    simp
theorem replaceK_all (c : UInt8) (new : List UInt8) : ∀ l : List UInt8, Lib.replaceK [c] new (Lib.count l [c]) l = l.flatMap fun x => if x = c then new else [x]
  | [] => by rw [show Lib.count [] [c] = 0 from Lib.count_miss (by simp [Lib.index])]; rfl
  | b :: l => by
    have ih := replaceK_all c new l
    rw [List.flatMap_cons]
    by_cases h : b = c
    · subst h
      have hix : Lib.index (b :: l) [b] = ((0 : Nat) : Int) := by rw [Lib.index]; simp [List.isPrefixOf]
      rw [Lib.count_cons_eq, Nat.add_comm, Lib.replaceK_hit _ _ _ _ _ hix, if_pos rfl, ← ih]
      simp
    · rw [Lib.count_cons_ne b c l h, replaceK_ne h _ _ (Nat.le_refl _), if_neg h, ih]
      rfl
theorem replaceAll_dbl (s : ByteArray) : (⟨(Lib.replaceAll s.data.toList (⟨#[39]⟩ : ByteArray).data.toList (⟨#[39, 39]⟩ : ByteArray).data.toList).toArray⟩ : ByteArray) = dblB s := by
  have e : Lib.replaceAll s.data.toList [39] [39, 39] = s.data.toList.flatMap fun c => if c = 39 then [39, 39] else [c] := by
    unfold Lib.replaceAll Lib.replace
    rw [if_neg (by decide), show Lib.replaceNum s.data.toList [39] (-1) = Lib.count s.data.toList [39] by unfold Lib.replaceNum; rw [if_pos (by omega)], replaceK_all]
  unfold dblB
  rw [← e]
theorem dblB_size (s : ByteArray) : (dblB s).size = s.size + Lib.countB s ⟨#[39]⟩ := by
  have : ∀ l : List UInt8, (l.flatMap fun c => if c = 39 then [39, 39] else [c]).length = l.length + l.count 39 := by
    intro l
    induction l with
    | nil => rfl
    | cons b l ih =>
      rw [List.flatMap_cons, List.length_append, ih, List.count_cons, List.length_cons]
      by_cases h : b = 39
      · simp [h]; omega
      · simp [h]; omega
  unfold dblB Lib.countB
  show (List.toArray _).size = s.data.size + _
  rw [List.size_toArray, this, Array.length_toList, show (⟨#[39]⟩ : ByteArray).data.toList = [39] from rfl, Lib.count_one]
theorem count39_le (s : ByteArray) : Lib.countB s ⟨#[39]⟩ ≤ s.size := Lib.countB_le _ (by decide) _ _ (Nat.le_refl _)
theorem dblB_le (s : ByteArray) : (dblB s).size ≤ 2 * s.size := by
  have h := dblB_size s
  have h2 := count39_le s
  omega
end Go.Proofs.YtbnhfjhhbgmhfaaDoor
