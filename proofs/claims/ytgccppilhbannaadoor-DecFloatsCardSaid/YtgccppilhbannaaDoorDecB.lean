/-
  The walk of dec.made: a decimal of digits that may have noughts ahead.
-/
import Derived.Test.YtgccppilhbannaaDoorRows
import Derived.Test.YtgccppilhbannaaDoorDecP
import Derived.Test.YtgccppilhbannaaDoorShelf
import Derived.WalkKit
import Derived.WalkSpells
import Derived.WalkLawsBesides
import Derived.Lib.Hide
import Derived.Handy
namespace Go.Proofs.YtgccppilhbannaaDoor
open Go.RowKit Go.PlainAid

theorem allDig_mem {s : ByteArray} : AllDig s ↔ ∀ b ∈ s.data.toList, 48 ≤ b.toNat ∧ b.toNat ≤ 57 := by
  constructor
  · intro h b hb
    obtain ⟨k, hk, e⟩ := List.getElem_of_mem hb
    have hk' : k < s.size := by rw [Lib.size_eq]; exact hk
    have := h k hk'
    rw [← get_bt s k hk'] at this
    have e2 : s[k]'hk' = b := e
    rw [e2] at this
    omega
  · intro h k hk
    rw [← get_bt s k hk]
    have := h (s[k]'hk) (by
      have : (s[k]'hk) = s.data.toList[k]'(by rw [← Lib.size_eq]; exact hk) := rfl
      rw [this]; exact List.getElem_mem _)
    omega
/-- A text without the noughts ahead. -/
def noNought (s : ByteArray) : ByteArray := ⟨(Lib.trimLeftB s.data.toList 48).toArray⟩
theorem noNought_list (s : ByteArray) : (noNought s).data.toList = s.data.toList.dropWhile (· == 48) := by simp [noNought, Lib.trimLeftB]
theorem dropWhile_head {l : List UInt8} {c : UInt8} : ∀ b m, l.dropWhile (· == c) = b :: m → b ≠ c := by
  intro b m h e
  subst e
  induction l with
  | nil => simp at h
  | cons x l ih =>
    rw [List.dropWhile_cons] at h
    split at h
    · exact ih h
    · rename_i hx
      simp only [List.cons.injEq] at h
      rw [h.1] at hx
      simp at hx
theorem mem_takeWhile {l : List UInt8} {p : UInt8 → Bool} : ∀ b, b ∈ l.takeWhile p → p b = true := by
  induction l with
  | nil => intro b h; simp at h
  | cons x l ih =>
    intro b h
    rw [List.takeWhile_cons] at h
    split at h
    · rename_i hx
      rcases List.mem_cons.1 h with rfl | h
      · exact hx
      · exact ih b h
    · simp at h
theorem dval_noNought (s : ByteArray) : dval (noNought s) = dval s := by
  have h := List.takeWhile_append_dropWhile (p := (· == (48 : UInt8))) (l := s.data.toList)
  have hz : (s.data.toList.takeWhile (· == (48 : UInt8))).map (fun b => b.toNat - 48) = List.replicate (s.data.toList.takeWhile (· == (48 : UInt8))).length 0 := by
    rw [List.eq_replicate_iff]
    refine ⟨by simp, fun x hx => ?_⟩
    obtain ⟨b, hb, rfl⟩ := List.mem_map.1 hx
    have hb' := mem_takeWhile (p := (· == (48 : UInt8))) b hb
    have e : b = 48 := by simpa using hb'
    rw [e]
    rfl
  unfold dval dl
  rw [noNought_list]
  conv => rhs; rw [← h, List.map_append, hz, List.reverse_append, List.reverse_replicate, rowval_append, rowval_zeros]
  simp
theorem noNought_dig {s : ByteArray} (h : AllDig s) : AllDig (noNought s) :=
  allDig_mem.2 fun b hb => allDig_mem.1 h b (by rw [noNought_list] at hb; exact (List.dropWhile_suffix _).subset hb)
theorem noNought_head (s : ByteArray) (h : 0 < (noNought s).size) : bt (noNought s) 0 ≠ 48 := by
  rw [← get_bt _ 0 h]
  rw [Lib.size_eq] at h
  cases e : (noNought s).data.toList with
  | nil => rw [e] at h; simp at h
  | cons b m =>
    have e1 := e
    rw [noNought_list] at e1
    have hb := dropWhile_head b m e1
    have e2 : (noNought s)[0] = b := by
      have : (noNought s)[0] = (noNought s).data.toList[0]'(by rw [e]; simp) := rfl
      rw [this]
      simp [e]
    rw [e2]
    intro g
    exact hb (u8_eq g)
theorem noNought_some {s : ByteArray} (h : AllDig s) (h0 : 0 < (noNought s).size) : noNought s = digs (dval s) ∧ dval s ≠ 0 := by
  have h1 := noNought_head s h0
  have h2 := digs_of (noNought_dig h) h0 (fun _ => h1)
  rw [dval_noNought] at h2
  refine ⟨h2.symm, fun e => ?_⟩
  rw [e] at h2
  rw [← h2] at h1
  exact h1 (by decide +kernel)
theorem noNought_none {s : ByteArray} (h0 : (noNought s).size = 0) : dval s = 0 := by
  rw [← dval_noNought]
  have : (noNought s).data.toList = [] := List.eq_nil_of_length_eq_zero (by rw [← Lib.size_eq]; exact h0)
  unfold dval dl
  rw [this]
  rfl
theorem digs_zero : digs 0 = ⟨#[48]⟩ := by decide +kernel
theorem isEmpty_of (s : ByteArray) (h : s.size = 0) : s.toList.isEmpty = true := by
  rw [Lib.toList_data]; rw [Lib.size_eq] at h
  cases e : s.data.toList <;> simp_all
theorem isEmpty_not (s : ByteArray) (h : s.size ≠ 0) : s.toList.isEmpty = false := by
  rw [Lib.toList_data]; rw [Lib.size_eq] at h
  cases e : s.data.toList <;> simp_all

set_option maxRecDepth 100000 in
set_option maxHeartbeats 1000000 in
theorem made_any (neg : Bool) (s : ByteArray) (sc : Int) (w : World) (hd : AllDig s) :
    Calls Tryd.prog 49 #[.bool neg, .string s, .int .i64 sc] w fun e w' => e = .returned (decE (madeR neg (dval s) sc)) ∧ Below w.heap.size w w' := by
  have c := fun w => Tryd.strings_TrimLeft_one s 48 (by decide) w
  change ∀ w, Calls _ _ _ _ (fun e w' => e = .returned (.string (noNought s)) ∧ w' = w) at c
  by_cases h0 : (noNought s).size = 0
  · have hv := noNought_none h0
    have hne := isEmpty_of _ h0
    have HR := Lib.hid (show madeR neg (dval s) sc = if 400 < sc then (false, ⟨#[]⟩, 0, 3) else (false, ⟨#[48]⟩, sc, 0) by
      unfold madeR
      rw [hv, digs_zero]
      by_cases h : 400 < sc
      · rw [if_pos (.inr h), if_pos h]
      · rw [if_neg (fun g => by rcases g with g | g; { exact absurd g (by decide) }; exact h g), if_neg h]
        simp)
    clear hv h0
    generalize noNought s = t at *
    by_cases h4 : 400 < sc
    · go_enter Tryd.func49, Tryd.ntmps49
      go_wp2_with (go_at_call 83; refine (c _).mono ?_; rintro e w' ⟨rfl, rfl⟩)
      go_returns
      exact ⟨ret_val (by rw [HR.out, if_pos h4]), (Below.refl _ w).alloc (Nat.le_refl _) _⟩
    · go_enter Tryd.func49, Tryd.ntmps49
      go_wp2_with (go_at_call 83; refine (c _).mono ?_; rintro e w' ⟨rfl, rfl⟩)
      go_returns
      exact ⟨ret_val (by rw [HR.out, if_neg (by omega)]), (Below.refl _ w).alloc (Nat.le_refl _) _⟩
  · obtain ⟨h1, h2⟩ := noNought_some hd (by omega)
    have hne := isEmpty_not _ h0
    have HR := Lib.hid (show madeR neg (dval s) sc = if 400 < (noNought s).size ∨ 400 < sc then (false, ⟨#[]⟩, 0, 3) else (neg, noNought s, sc, 0) by
      unfold madeR
      rw [← h1]
      have : (dval s != 0) = true := by simpa using h2
      rw [this, Bool.and_true])
    clear h1 h2 h0
    generalize noNought s = t at *
    by_cases h3 : 400 < t.size
    · go_enter Tryd.func49, Tryd.ntmps49
      go_wp2_with (go_at_call 83; refine (c _).mono ?_; rintro e w' ⟨rfl, rfl⟩)
      go_returns
      exact ⟨ret_val (by rw [HR.out, if_pos (.inl h3)]), (Below.refl _ w).alloc (Nat.le_refl _) _⟩
    by_cases h4 : 400 < sc
    · go_enter Tryd.func49, Tryd.ntmps49
      go_wp2_with (go_at_call 83; refine (c _).mono ?_; rintro e w' ⟨rfl, rfl⟩)
      go_returns
      exact ⟨ret_val (by rw [HR.out, if_pos (.inr h4)]), (Below.refl _ w).alloc (Nat.le_refl _) _⟩
    · go_enter Tryd.func49, Tryd.ntmps49
      go_wp2_with (go_at_call 83; refine (c _).mono ?_; rintro e w' ⟨rfl, rfl⟩)
      go_returns
      exact ⟨ret_val (by rw [HR.out, if_neg (by omega)]), (Below.refl _ w).alloc (Nat.le_refl _) _⟩
end Go.Proofs.YtgccppilhbannaaDoor
