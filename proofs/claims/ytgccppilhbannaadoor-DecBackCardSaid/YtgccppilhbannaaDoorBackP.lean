/-
  Plain: a decimal's text is read as it.
-/
import Derived.Test.YtgccppilhbannaaDoorTot
namespace Go.Proofs.YtgccppilhbannaaDoor
open Go.RowKit Go.PlainAid

theorem nd_exact {s : ByteArray} : ∀ (n p : Nat), (∀ j, j < n → digAt s (p + j) = true) → digAt s (p + n) = false → ndig s p = n
  | 0, p, _, h => nd_stop (by simpa using h)
  | n + 1, p, h1, h2 => by
    rw [nd_step (by simpa using h1 0 (by omega)), nd_exact n (p + 1) (fun j hj => by have := h1 (j + 1) (by omega); rwa [show p + (j + 1) = p + 1 + j by omega] at this) (by rwa [show p + (n + 1) = p + 1 + n by omega] at h2)]
    omega
theorem nd_end {s : ByteArray} {p : Nat} (h : s.size ≤ p) : digAt s p = false := by
  cases hq : digAt s p with
  | false => rfl
  | true => have := (digAt_iff.1 hq).1; omega

/-- What a text of a decimal's form is read as. -/
theorem parse_form {s H B : ByteArray} {f k : Nat} {neg : Bool} (hf : f = if neg = true then 1 else 0) (hsg : neg = true → bt s 0 = 45) (h1 : 1 ≤ H.size) (hH : AllDig H) (hB : AllDig B) (hBk : B.size = k)
    (hsz : s.size = f + H.size + (if 0 < k then 1 + k else 0)) (hbH : ∀ j, j < H.size → bt s (f + j) = bt H j) (hpt : 0 < k → bt s (f + H.size) = 46) (hbB : ∀ j, j < k → bt s (f + H.size + 1 + j) = bt B j)
    (hlead : bt H 0 = 48 → H.size = 1) (hle : s.size ≤ 802) (hnz : neg = true → dval (H ++ B) ≠ 0) :
    parseP s = ((madeR neg (dval (H ++ B)) k).1, (madeR neg (dval (H ++ B)) k).2.1, (madeR neg (dval (H ++ B)) k).2.2.1, (madeR neg (dval (H ++ B)) k).2.2.2, 0) := by
  have h0 := hH 0 h1
  have hb0 := hbH 0 h1
  rw [Nat.add_zero] at hb0
  have hfrom : pFrom s = f := by
    unfold pFrom
    cases neg with
    | true => rw [if_pos (hsg rfl), hf]; rfl
    | false =>
      have e : f = 0 := hf
      rw [e] at hb0
      rw [if_neg (by omega), e]
  have hdig : ∀ j, j < H.size → digAt s (f + j) = true := fun j hj => digAt_iff.2 ⟨by split at hsz <;> omega, by rw [hbH j hj]; exact (hH j hj).1, by rw [hbH j hj]; exact (hH j hj).2⟩
  have hstop : digAt s (f + H.size) = false := by
    by_cases hk : 0 < k
    · cases hq : digAt s (f + H.size) with
      | false => rfl
      | true => have := (digAt_iff.1 hq).2; rw [hpt hk] at this; omega
    · exact nd_end (by rw [if_neg hk] at hsz; omega)
  have hend : pEnd s = f + H.size := by
    unfold pEnd
    rw [hfrom, hb0]
    by_cases h48 : bt H 0 = 48
    · rw [if_pos h48, hlead h48]
    · rw [if_neg h48, nd_exact H.size f hdig hstop]
  have hscale : pScale s = k := by
    unfold pScale
    rw [hend]
    by_cases hk : 0 < k
    · rw [if_pos hk] at hsz
      rw [if_pos (by omega)]
      refine nd_exact k _ (fun j hj => ?_) (nd_end (by omega))
      have hd := hB j (by omega)
      exact digAt_iff.2 ⟨by omega, by rw [hbB j hj]; exact hd.1, by rw [hbB j hj]; exact hd.2⟩
    · rw [if_neg hk] at hsz
      rw [if_neg (by omega)]
      omega
  have hXH : s.extract f (f + H.size) = H := by
    refine bytes_eq (by rw [size_sub _ _ _ (by split at hsz <;> omega)]; omega) fun j hj => ?_
    rw [size_sub _ _ _ (by split at hsz <;> omega)] at hj
    rw [bt_sub _ _ _ _ hj (by split at hsz <;> omega), hbH j (by omega)]
  have htext : pText s = H ++ B := by
    unfold pText
    rw [hend, hfrom]
    by_cases hk : 0 < k
    · rw [if_pos hk] at hsz
      rw [if_pos (by omega), hXH]
      congr 1
      refine bytes_eq (by rw [size_sub _ _ _ (Nat.le_refl _)]; omega) fun j hj => ?_
      rw [size_sub _ _ _ (Nat.le_refl _)] at hj
      rw [bt_sub _ _ _ _ hj (Nat.le_refl _), hbB j (by omega)]
    · rw [if_neg hk] at hsz
      rw [if_neg (by omega)]
      have e : s.size = f + H.size := by omega
      rw [e, hXH]
      apply ext_list
      rw [app_list]
      have : B.data.toList = [] := by
        have := size_list B
        apply List.eq_nil_of_length_eq_zero
        omega
      rw [this, List.append_nil]
  unfold parseP
  rw [if_neg (by omega), hfrom, if_neg (by rw [show digAt s f = true by simpa using hdig 0 h1]; decide), hend, hscale, htext, if_neg (fun g => by
    by_cases hk : 0 < k
    · exact g.2 (hpt hk)
    · rw [if_neg hk] at hsz; omega), if_neg (fun g => by
    by_cases hk : 0 < k
    · rw [if_pos hk] at hsz; omega
    · rw [if_neg hk] at hsz; omega), if_neg (fun g => by
    cases neg with
    | true => exact hnz rfl g.2
    | false => have e : f = 0 := hf; omega)]
  have e : (f == 1) = neg := by cases neg <;> rw [hf] <;> rfl
  rw [e]

theorem made_right {neg : Bool} {ds : ByteArray} {k : Nat} (h : rightB neg ds k = true) : madeR neg (dval ds) k = (neg, ds, (k : Int), 0) := by
  obtain ⟨_, h2, _, h4, _, _⟩ := of_decide_eq_true h
  unfold madeR
  rw [right_digs h, if_neg (by omega)]
  cases neg with
  | false => rfl
  | true => rw [show (dval ds != 0) = true by simpa using neg_nz h rfl]; rfl
theorem sgn_app (neg : Bool) (T : ByteArray) (j : Nat) : bt ((if neg = true then ⟨#[45]⟩ else ⟨#[]⟩ : ByteArray) ++ T) ((if neg = true then 1 else 0) + j) = bt T j := by
  cases neg
  · rw [if_neg (by decide), if_neg (by decide), bt_app, if_neg (by show ¬ (0 + j < 0); omega)]
    congr 1
    show 0 + j - 0 = j
    omega
  · rw [if_pos rfl, if_pos rfl, bt_app, if_neg (by show ¬ (1 + j < 1); omega)]
    congr 1
    show 1 + j - 1 = j
    omega
theorem sgn_size (neg : Bool) : (if neg = true then ⟨#[45]⟩ else ⟨#[]⟩ : ByteArray).size = if neg = true then 1 else 0 := by cases neg <;> rfl
/-- A decimal's text is read as it. -/
theorem parse_print {neg : Bool} {ds : ByteArray} {k : Nat} (h : rightB neg ds k = true) : parseP (printT neg ds k) = (neg, ds, (k : Int), 0, 0) := by
  obtain ⟨h1, h2, _, h4, h5, h6⟩ := of_decide_eq_true h
  have hs : printT neg ds k = (if neg = true then ⟨#[45]⟩ else ⟨#[]⟩ : ByteArray) ++ ⟨(pointL ds.data.toList k).toArray⟩ := by
    cases neg with
    | true => exact printT_true ds k
    | false =>
      rw [printT_false, if_neg (by decide)]
      apply ext_list
      rw [app_list]
      rfl
  obtain ⟨f, hf⟩ : ∃ f, (if neg = true then 1 else 0) = f := ⟨_, rfl⟩
  have hf1 : f ≤ 1 := by rw [← hf]; split <;> omega
  have hap := sgn_app neg (⟨(pointL ds.data.toList k).toArray⟩ : ByteArray)
  have hz := sgn_size neg
  have h45 : neg = true → bt (printT neg ds k) 0 = 45 := fun e => by subst e; rw [hs, if_pos rfl, bt_app, if_pos (by decide)]; decide
  have hsz : (printT neg ds k).size = f + (⟨(pointL ds.data.toList k).toArray⟩ : ByteArray).size := by rw [hs, ByteArray.size_append, hz, hf]
  rw [hf, ← hs] at hap
  have hfin := made_right h
  by_cases hk : 0 < k
  · have hP := pad_list ds k
    have hPs := pad_size ds k
    obtain ⟨P, hPe⟩ : ∃ P : ByteArray, ⟨(padL ds.data.toList k).toArray⟩ = P := ⟨_, rfl⟩
    rw [hPe] at hP hPs
    have hPl : padL ds.data.toList k = P.data.toList := by rw [← hPe]
    have hpl : (⟨(pointL ds.data.toList k).toArray⟩ : ByteArray) = (P.extract 0 (P.size - k) ++ ⟨#[46]⟩) ++ P.extract (P.size - k) P.size := by
      rw [cut_text]
      unfold pointL
      rw [if_pos hk, hPl, size_list]
    have hPd : AllDig P := by rw [hP]; exact pad_dig h6 _
    have hHs : (P.extract 0 (P.size - k)).size = P.size - k := by rw [size_sub _ _ _ (by omega)]; omega
    have hBs : (P.extract (P.size - k) P.size).size = k := by rw [size_sub _ _ _ (Nat.le_refl _)]; omega
    have h1s : (⟨#[46]⟩ : ByteArray).size = 1 := rfl
    rw [hpl] at hap hsz
    rw [ByteArray.size_append, ByteArray.size_append, hHs, hBs, h1s] at hsz
    have hval : dval (P.extract 0 (P.size - k) ++ P.extract (P.size - k) P.size) = dval ds := by rw [split_at, hP, dval_pad]
    have hH0 : bt (P.extract 0 (P.size - k)) 0 = bt P 0 := by rw [bt_sub _ _ _ _ (by omega) (by omega)]
    have key := parse_form (s := printT neg ds k) (H := P.extract 0 (P.size - k)) (B := P.extract (P.size - k) P.size) (f := f) (k := k) (neg := neg) hf.symm h45 (by omega) (sub_dig hPd _ _ (by omega)) (sub_dig hPd _ _ (Nat.le_refl _)) hBs
      (by rw [if_pos hk, hsz, hHs]; omega) (fun j hj => by rw [hap, bt_app, if_pos (by rw [ByteArray.size_append]; omega), bt_app, if_pos hj]) (fun _ => by rw [hap, bt_app, if_pos (by rw [ByteArray.size_append]; omega), bt_app, if_neg (by omega), Nat.sub_self]; decide)
      (fun j hj => by rw [Nat.add_assoc, Nat.add_assoc, hap, bt_app, if_neg (by rw [ByteArray.size_append]; omega)]; congr 1; rw [ByteArray.size_append]; omega)
      (fun e => by
        rw [hH0] at e
        rw [hHs, hPs]
        by_cases hp : ds.size ≤ k
        · omega
        · have : P = ds := by rw [← hPe]; exact pad_not ds k (by omega)
          rw [this] at e
          have : ¬ 1 < ds.size := fun g => h5 ⟨e, .inl g⟩
          omega)
      (by omega) (fun e => by rw [hval]; exact neg_nz h e)
    rw [key, hval, hfin]
  · have hk0 : k = 0 := by omega
    subst hk0
    have hpl : (⟨(pointL ds.data.toList 0).toArray⟩ : ByteArray) = ds := by
      apply ext_list
      simp [pointL]
    rw [hpl] at hap hsz
    have he : dval (ds ++ ⟨#[]⟩) = dval ds := by
      congr 1
      apply ext_list
      rw [app_list]
      simp
    have key := parse_form (s := printT neg ds (0 : Nat)) (H := ds) (B := ⟨#[]⟩) (f := f) (k := 0) (neg := neg) hf.symm h45 h1 h6 (fun j hj => absurd hj (by show ¬ j < 0; omega)) rfl
      (by rw [if_neg (by decide), hsz]; rfl) (fun j _ => hap j) (fun e => absurd e (by decide)) (fun j hj => absurd hj (by omega))
      (fun e => by
        have : ¬ 1 < ds.size := fun g => h5 ⟨e, .inl g⟩
        omega)
      (by rw [hsz]; omega) (fun e => by rw [he]; exact neg_nz h e)
    rw [key, he, hfin]
end Go.Proofs.YtgccppilhbannaaDoor
