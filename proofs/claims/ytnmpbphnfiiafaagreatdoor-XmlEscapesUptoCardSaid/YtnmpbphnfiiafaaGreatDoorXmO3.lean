/-
  A part of XML, plain: runs of names, values and texts; the file of XmlThere.
-/
import Derived.Test.YtnmpbphnfiiafaaGreatDoorXmO2
namespace Go.Proofs.YtnmpbphnfiiafaaGreatDoor
open Go.RowKit Go.PlainAid

theorem blk_same {s : ByteArray} {p : Nat} (h : bBlank (bt s p) = false) : blk s p = p := by
  unfold blk
  cases hf : s.size - p with
  | zero => rfl
  | succ f =>
    unfold blkF
    rw [if_neg (by rw [h]; simp)]
theorem blk_more {s : ByteArray} {p : Nat} (h : bBlank (bt s p) = true) (hp : p < s.size) : blk s p = blk s (p + 1) := by
  unfold blk
  rw [show s.size - p = (s.size - (p + 1)) + 1 by omega]
  conv => lhs; unfold blkF
  rw [if_pos h]
theorem nm_run : ∀ {nm : List UInt8} {t : ByteArray} {P : Nat}, At t P nm → (∀ c ∈ nm, bByte (c.toNat : Int) = true) → bByte (bt t (P + nm.length)) = false → nmE t P = P + nm.length
  | [], t, P, _, _, h => by
    unfold nmE
    exact nmF_stop h
  | c :: nm, t, P, hA, hc, h => by
    obtain ⟨h1, h2⟩ := hA.head
    have hb : bByte (bt t P) = true := by rw [h2]; exact hc c (by simp)
    have e : P + (c :: nm).length = P + 1 + nm.length := by rw [List.length_cons]; omega
    rw [e] at h ⊢
    have := nm_run hA.tail (fun d hd => hc d (by simp [hd])) h
    unfold nmE at this ⊢
    rw [nmF_step hb, this]
/-- A name that stands there. -/
theorem name_at {nm : List UInt8} {t : ByteArray} {P : Nat} {c : UInt8} {l : List UInt8} (hA : At t P nm) (hn : nm = c :: l) (hs : bStart (c.toNat : Int) = true) (hc : ∀ d ∈ nm, bByte (d.toNat : Int) = true) (hl : nm.length ≤ 64) (hend : bByte (bt t (P + nm.length)) = false) : nameX t P = .ok (P + nm.length) ⟨nm.toArray⟩ := by
  have hr := nm_run hA hc hend
  have hx := hA.extract
  subst hn
  unfold nameX
  rw [if_pos (by rw [hA.head.2]; exact hs), hr, if_neg (by omega), hx]
theorem val_run {t : ByteArray} : ∀ {L : List (List UInt8 × List UInt8)} {P g : Nat} {acc : List UInt8}, (∀ x ∈ L, Pc x.1 x.2 ∧ Tame x.1) → At t P (Encs L) → valF t 34 (g + L.length) P ⟨acc.toArray⟩ = valF t 34 g (P + (Encs L).length) ⟨(acc ++ Decs L).toArray⟩
  | [], P, g, acc, _, _ => by
    show valF t 34 (g + 0) P _ = valF t 34 g (P + 0) ⟨(acc ++ []).toArray⟩
    rw [List.append_nil]
    rfl
  | x :: L, P, g, acc, h, hA => by
    have hA' : At t P (x.1 ++ Encs L) := hA
    obtain ⟨hp, ht⟩ := h x (by simp)
    obtain ⟨h1, h2, _, h4⟩ := tame_head ht hp.ne hA'.left
    rw [List.length_cons, ← Nat.add_assoc, valF_go h4 (by omega), hp.read t P hA'.left]
    simp only
    rw [toA_append]
    rw [show ((⟨x.2.toArray⟩ : ByteArray).data.toList) = x.2 by simp]
    rw [val_run (fun y hy => h y (by simp [hy])) hA'.right]
    show _ = valF t 34 g (P + (x.1 ++ Encs L).length) ⟨(acc ++ (x.2 ++ Decs L)).toArray⟩
    rw [List.length_append, Nat.add_assoc, List.append_assoc]
/-- No '>' in a text: no "]]>" either. -/
theorem no_close {t : ByteArray} {P : Nat} (h1 : bt t (P + 2) ≠ 62) : wdAt t P [93, 93, 62] = false := by
  simp only [wdAt, Bool.and_true]
  have : (bt t (P + 1 + 1) == 62) = false := by simpa using h1
  rw [this]
  simp
theorem not_lt_cmt {t : ByteArray} {P : Nat} (h : bt t P ≠ 60) : isCmt t P = false ∧ wdAt t P [60, 47] = false := by
  have : (bt t P == 60) = false := by simpa using h
  unfold isCmt
  simp only [wdAt, this, Bool.false_and, and_self]
theorem hold_run {t : ByteArray} {out : List Tk} {pile : List ByteArray} (hpi : pile ≠ []) : ∀ {L : List (List UInt8 × List UInt8)} {P g : Nat} {acc : List UInt8} {fr : Option Nat}, (∀ x ∈ L, Pc x.1 x.2 ∧ Tame x.1) → At t P (Encs L ++ [60]) → (∀ k, P ≤ k → k < P + (Encs L).length + 1 → bt t k ≠ 62) → bt t (P + (Encs L).length + 1) ≠ 62 → L ≠ [] →
    holdF t (g + L.length) P out pile ⟨acc.toArray⟩ fr = holdF t g (P + (Encs L).length) out pile ⟨(acc ++ Decs L).toArray⟩ (some (fr.getD P))
  | [], _, _, _, _, _, _, _, _, hL => absurd rfl hL
  | x :: L, P, g, acc, fr, h, hA, hno, hn2, _ => by
    have hA' : At t P (x.1 ++ (Encs L ++ [60])) := by rw [← List.append_assoc]; exact hA
    obtain ⟨hp, ht⟩ := h x (by simp)
    obtain ⟨h1, h2, h3, h4⟩ := tame_head ht hp.ne hA'.left
    have hle : (Encs (x :: L)).length = x.1.length + (Encs L).length := by show (x.1 ++ Encs L).length = _; rw [List.length_append]
    have hpos := List.length_pos_iff.2 hp.ne
    have hc := not_lt_cmt h2
    have hno2 : bt t (P + 2) ≠ 62 := by
      by_cases hk : P + 2 < P + (Encs (x :: L)).length + 1
      · exact hno _ (by omega) hk
      · have : P + 2 = P + (Encs (x :: L)).length + 1 := by omega
        rw [this]
        exact hn2
    have hst : holdF t (g + (x :: L).length) P out pile ⟨acc.toArray⟩ fr = holdF t (g + L.length) (P + x.1.length) out pile ⟨(acc ++ x.2).toArray⟩ (some (fr.getD P)) := by
      rw [List.length_cons, ← Nat.add_assoc, holdF_piece hpi hc.1 hc.2 h2 (by
        rintro (e | e)
        · omega
        · rw [no_close hno2] at e; cases e), hp.read t P hA'.left]
      simp only
      rw [toA_append]
    rw [hst]
    by_cases hL : L = []
    · subst hL
      rw [hle]
      show holdF t (g + 0) (P + x.1.length) out pile ⟨(acc ++ x.2).toArray⟩ _ = holdF t g (P + (x.1.length + 0)) out pile ⟨(acc ++ (x.2 ++ [])).toArray⟩ _
      rw [List.append_nil]
      rfl
    · rw [hold_run hpi (fun y hy => h y (by simp [hy])) hA'.right (fun k hk1 hk2 => hno k (by omega) (by omega)) (by rw [show P + x.1.length + (Encs L).length + 1 = P + (Encs (x :: L)).length + 1 by omega]; exact hn2) hL, hle]
      show holdF t g _ out pile ⟨(acc ++ x.2 ++ Decs L).toArray⟩ _ = holdF t g _ out pile ⟨(acc ++ (x.2 ++ Decs L)).toArray⟩ _
      rw [List.append_assoc, Nat.add_assoc]
      rfl
end Go.Proofs.YtnmpbphnfiiafaaGreatDoor
