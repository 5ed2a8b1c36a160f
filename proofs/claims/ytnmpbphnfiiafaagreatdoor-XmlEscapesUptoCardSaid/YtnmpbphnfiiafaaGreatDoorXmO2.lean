/-
  A part of XML, plain: a text that is written with references is read as it was.
-/
import Derived.Test.YtnmpbphnfiiafaaGreatDoorXmO
namespace Go.Proofs.YtnmpbphnfiiafaaGreatDoor
open Go.RowKit Go.PlainAid

/-- No byte that ends a text or a value. -/
def Tame (e : List UInt8) : Prop := ∀ c ∈ e, c ≠ 60 ∧ c ≠ 62 ∧ c ≠ 34
theorem multi_high {s : ByteArray} {p : Nat} (hr : ¬ rn s p < 0) (h : ¬ bt s p < 128) : ∀ k, k < wd s p → 128 ≤ bt s (p + k) := by
  have e := formS_wd s p
  unfold rn at hr
  unfold formS at hr e
  unfold formI at hr e
  rw [if_neg h] at hr e
  intro k hk
  have h0 : 128 ≤ bt s (p + 0) := by rw [Nat.add_zero]; omega
  split at hr
  · rename_i c2
    rw [if_pos c2] at e
    split at hr
    · rename_i d
      rw [if_pos d] at e
      simp only at e
      have : k = 0 ∨ k = 1 := by omega
      rcases this with rfl | rfl
      · exact h0
      · omega
    · exact absurd (show (-1 : Int) < 0 by decide) hr
  rename_i c2
  rw [if_neg c2] at e
  split at hr
  · rename_i c3
    rw [if_pos c3] at e
    split at hr
    · rename_i d
      rw [if_pos d] at e
      simp only at e
      have : k = 0 ∨ k = 1 ∨ k = 2 := by omega
      rcases this with rfl | rfl | rfl
      · exact h0
      · omega
      · omega
    · exact absurd (show (-1 : Int) < 0 by decide) hr
  rename_i c3
  rw [if_neg c3] at e
  split at hr
  · rename_i c4
    rw [if_pos c4] at e
    split at hr
    · rename_i d
      rw [if_pos d] at e
      simp only at e
      have : k = 0 ∨ k = 1 ∨ k = 2 ∨ k = 3 := by omega
      rcases this with rfl | rfl | rfl | rfl
      · exact h0
      · omega
      · omega
      · omega
    · exact absurd (show (-1 : Int) < 0 by decide) hr
  · exact absurd (show (-1 : Int) < 0 by decide) hr
theorem escC_other {c : UInt8} (h1 : c ≠ 38) (h2 : c ≠ 60) (h3 : c ≠ 62) (h4 : c ≠ 34) : escC c = [c] := by
  unfold escC
  rw [if_neg h1, if_neg h2, if_neg h3, if_neg h4]
theorem flat_other : ∀ {l : List UInt8}, (∀ c ∈ l, c ≠ 38 ∧ c ≠ 60 ∧ c ≠ 62 ∧ c ≠ 34) → l.flatMap escC = l
  | [], _ => rfl
  | c :: l, h => by
    obtain ⟨h1, h2, h3, h4⟩ := h c (by simp)
    rw [List.flatMap_cons, escC_other h1 h2 h3 h4, flat_other (fun d hd => h d (by simp [hd]))]
    rfl
theorem byte_ne {c : UInt8} {n : Nat} (h : (c.toNat : Int) ≠ n) (hn : n < 256) : c ≠ UInt8.ofNat n := by
  intro e
  subst e
  apply h
  simp
  omega
theorem sub_split {s : ByteArray} {p n : Nat} : s.data.toList.drop p = sub s p n ++ s.data.toList.drop (p + n) := by
  unfold sub
  rw [← List.drop_drop, List.take_append_drop]
theorem sub_mem {s : ByteArray} {p n : Nat} {c : UInt8} (h : p + n ≤ s.size) (hc : c ∈ sub s p n) : ∃ k, k < n ∧ (c.toNat : Int) = bt s (p + k) := by
  obtain ⟨k, hk, rfl⟩ := List.getElem_of_mem hc
  have hl := sub_len h
  exact ⟨k, by omega, sub_at h (by omega) hk⟩
/-- A taken text falls into pieces. -/
theorem pieces_of {s : ByteArray} : ∀ (f p : Nat), takenF s f p = true → s.size < p + f → p ≤ s.size → ∃ L : List (List UInt8 × List UInt8), (L.map (·.2)).flatten = s.data.toList.drop p ∧ (L.map (·.1)).flatten = (s.data.toList.drop p).flatMap escC ∧ ∀ x ∈ L, Pc x.1 x.2 ∧ Tame x.1
  | 0, p, _, h1, h2 => by omega
  | f + 1, p, h, h1, h2 => by
    by_cases hp : p < s.size
    · have hc : rChar (rn s p) = true := by
        unfold takenF at h
        rw [if_neg (by omega)] at h
        split at h
        · assumption
        · cases h
      have h' := h
      rw [takenF_go hp hc] at h'
      have hin := wd_in s p hp
      have hwp := wd_pos s p hp
      obtain ⟨L, hL1, hL2, hL3⟩ := pieces_of f (p + wd s p) h' (by omega) hin
      have hr0 : ¬ rn s p < 0 := by
        unfold rChar at hc
        simp only [decide_eq_true_eq] at hc
        omega
      have hspl := sub_split (s := s) (p := p) (n := wd s p)
      by_cases hsp : bt s p = 38 ∨ bt s p = 60 ∨ bt s p = 62 ∨ bt s p = 34
      · have hw1 : wd s p = 1 := ascii_wd (by omega)
        have hl1 := sub_len hin
        rw [hw1] at hspl hl1 hL1 hL2 hin
        obtain ⟨c, hcs⟩ := List.length_eq_one_iff.1 hl1
        have hcb : (c.toNat : Int) = bt s p := by
          have := sub_at hin (k := 0) (by omega) (by rw [hl1]; omega)
          simp only [hcs, List.getElem_cons_zero, Nat.add_zero] at this
          exact this
        have hcc : (c = 38 ∨ c = 60 ∨ c = 62 ∨ c = 34) := by
          rcases hsp with e | e | e | e
          · exact .inl (UInt8.toNat_inj.1 (by show c.toNat = 38; omega))
          · exact .inr (.inl (UInt8.toNat_inj.1 (by show c.toNat = 60; omega)))
          · exact .inr (.inr (.inl (UInt8.toNat_inj.1 (by show c.toNat = 62; omega))))
          · exact .inr (.inr (.inr (UInt8.toNat_inj.1 (by show c.toNat = 34; omega))))
        rw [hcs] at hspl
        refine ⟨(escC c, [c]) :: L, ?_, ?_, fun x hx => ?_⟩
        · rw [List.map_cons, List.flatten_cons, hL1, hspl]
        · rw [List.map_cons, List.flatten_cons, hL2, hspl, List.flatMap_append]
          simp
        · rcases List.mem_cons.1 hx with rfl | hx
          · rcases hcc with rfl | rfl | rfl | rfl
            · exact ⟨pc_amp, by unfold Tame; decide⟩
            · exact ⟨pc_lt, by unfold Tame; decide⟩
            · exact ⟨pc_gt, by unfold Tame; decide⟩
            · exact ⟨pc_quot, by unfold Tame; decide⟩
          · exact hL3 x hx
      · have hall : ∀ c ∈ sub s p (wd s p), c ≠ 38 ∧ c ≠ 60 ∧ c ≠ 62 ∧ c ≠ 34 := fun c hcm => by
          obtain ⟨k, hk, hkb⟩ := sub_mem hin hcm
          have hk2 : (c.toNat : Int) ≠ 38 ∧ (c.toNat : Int) ≠ 60 ∧ (c.toNat : Int) ≠ 62 ∧ (c.toNat : Int) ≠ 34 := by
            by_cases ha : bt s p < 128
            · have hw1 := ascii_wd ha
              have : k = 0 := by omega
              subst this
              rw [Nat.add_zero] at hkb
              omega
            · have := multi_high hr0 ha k hk
              omega
          refine ⟨fun e => ?_, fun e => ?_, fun e => ?_, fun e => ?_⟩ <;> (subst e; simp at hk2)
        refine ⟨(sub s p (wd s p), sub s p (wd s p)) :: L, ?_, ?_, fun x hx => ?_⟩
        · rw [List.map_cons, List.flatten_cons, hL1, ← hspl]
        · rw [List.map_cons, List.flatten_cons, hL2, hspl, List.flatMap_append, flat_other hall]
        · rcases List.mem_cons.1 hx with rfl | hx
          · exact ⟨raw_piece hp hc (fun e => hsp (.inl e)), fun c hcm => ⟨(hall c hcm).2.1, (hall c hcm).2.2.1, (hall c hcm).2.2.2⟩⟩
          · exact hL3 x hx
    · refine ⟨[], ?_, ?_, fun x hx => absurd hx (by simp)⟩
      · have : s.data.toList.drop p = [] := List.drop_eq_nil_of_le (show s.size ≤ p by omega)
        rw [this]
        rfl
      · have : s.data.toList.drop p = [] := List.drop_eq_nil_of_le (show s.size ≤ p by omega)
        rw [this]
        rfl
theorem tame_head {e : List UInt8} (h : Tame e) (hn : e ≠ []) {t : ByteArray} {P : Nat} (hA : At t P e) : P < t.size ∧ bt t P ≠ 60 ∧ bt t P ≠ 62 ∧ bt t P ≠ 34 := by
  cases e with
  | nil => exact absurd rfl hn
  | cons c l =>
    obtain ⟨h1, h2⟩ := hA.head
    obtain ⟨h3, h4, h5⟩ := h c (by simp)
    refine ⟨h1, fun e => h3 (UInt8.toNat_inj.1 ?_), fun e => h4 (UInt8.toNat_inj.1 ?_), fun e => h5 (UInt8.toNat_inj.1 ?_)⟩
    · show c.toNat = 60; omega
    · show c.toNat = 62; omega
    · show c.toNat = 34; omega
abbrev Encs (L : List (List UInt8 × List UInt8)) : List UInt8 := (L.map (·.1)).flatten
abbrev Decs (L : List (List UInt8 × List UInt8)) : List UInt8 := (L.map (·.2)).flatten
theorem whole_run {t : ByteArray} : ∀ {L : List (List UInt8 × List UInt8)} {P : Nat}, (∀ x ∈ L, Pc x.1 x.2 ∧ Tame x.1) → At t P (Encs L) → brk t P = brk t (P + (Encs L).length)
  | [], P, _, _ => rfl
  | x :: L, P, h, hA => by
    have hA' : At t P (x.1 ++ Encs L) := hA
    rw [(h x (by simp)).1.whole t P hA'.left, whole_run (fun y hy => h y (by simp [hy])) hA'.right]
    show _ = brk t (P + (x.1 ++ Encs L).length)
    rw [List.length_append, Nat.add_assoc]
theorem un_run {t : ByteArray} : ∀ {L : List (List UInt8 × List UInt8)} {P g : Nat} {acc : List UInt8}, (∀ x ∈ L, Pc x.1 x.2 ∧ Tame x.1) → At t P (Encs L) → unF t (g + L.length) P ⟨acc.toArray⟩ = unF t g (P + (Encs L).length) ⟨(acc ++ Decs L).toArray⟩
  | [], P, g, acc, _, _ => by
    show unF t (g + 0) P _ = unF t g (P + 0) ⟨(acc ++ []).toArray⟩
    rw [List.append_nil]
    rfl
  | x :: L, P, g, acc, h, hA => by
    have hA' : At t P (x.1 ++ Encs L) := hA
    obtain ⟨hp, ht⟩ := h x (by simp)
    obtain ⟨h1, h2, _⟩ := tame_head ht hp.ne hA'.left
    rw [List.length_cons, ← Nat.add_assoc, unF_go (by omega) h2, hp.read t P hA'.left]
    simp only
    rw [toA_append]
    rw [show ((⟨x.2.toArray⟩ : ByteArray).data.toList) = x.2 by simp]
    rw [un_run (fun y hy => h y (by simp [hy])) hA'.right]
    show _ = unF t g (P + (x.1 ++ Encs L).length) ⟨(acc ++ (x.2 ++ Decs L)).toArray⟩
    rw [List.length_append, Nat.add_assoc, List.append_assoc]
theorem encs_ge : ∀ {L : List (List UInt8 × List UInt8)}, (∀ x ∈ L, Pc x.1 x.2 ∧ Tame x.1) → L.length ≤ (Encs L).length
  | [], _ => Nat.zero_le _
  | x :: L, h => by
    have h1 := encs_ge (L := L) (fun y hy => h y (by simp [hy]))
    have h2 := List.length_pos_iff.2 (h x (by simp)).1.ne
    show L.length + 1 ≤ (x.1 ++ Encs L).length
    rw [List.length_append]
    omega
/-- What Escape writes, Unescape reads. -/
theorem unesc_esc {s : ByteArray} (h : takenX s = true) : unescX (escB s) = .ok (escB s).size s := by
  obtain ⟨L, h1, h2, h3⟩ := pieces_of (s.size + 1) 0 h (by omega) (Nat.zero_le _)
  rw [List.drop_zero] at h1 h2
  have hA : At (escB s) 0 (Encs L) := by
    show At ⟨(s.data.toList.flatMap escC).toArray⟩ 0 (Encs L)
    rw [← h2]
    exact At.self _
  have hsz : (escB s).size = (Encs L).length := by
    show (s.data.toList.flatMap escC).length = _
    rw [← h2]
  have hb := whole_run h3 hA
  rw [Nat.zero_add, ← hsz, brk_end (escB s) _ (Nat.le_refl _)] at hb
  unfold unescX
  rw [if_neg (by rw [hb]; omega)]
  have hge := encs_ge h3
  have hu := un_run (g := (escB s).size + 1 - L.length) (acc := []) h3 hA
  rw [show (escB s).size + 1 - L.length + L.length = (escB s).size + 1 by omega] at hu
  have hu2 : unF (escB s) ((escB s).size + 1) 0 ⟨#[]⟩ = _ := hu
  have h1' : Decs L = s.data.toList := h1
  rw [hu2, Nat.zero_add, ← hsz, List.nil_append, h1', mk_list]
  obtain ⟨g, hg⟩ : ∃ g, (escB s).size + 1 - L.length = g + 1 := ⟨(escB s).size - L.length, by omega⟩
  rw [hg, unF_end (Nat.le_refl _)]
end Go.Proofs.YtnmpbphnfiiafaaGreatDoor
