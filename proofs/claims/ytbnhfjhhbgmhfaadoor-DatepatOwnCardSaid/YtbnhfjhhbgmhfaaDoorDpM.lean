/-
  Patterns of dates: put and more: a text behind fields.
-/
import Derived.Test.YtbnhfjhhbgmhfaaDoorDpR
import Derived.StillTailTactics
import Derived.Deep.Cut
namespace Go.Proofs.YtbnhfjhhbgmhfaaDoor
open Go.RowKit Go.PlainAid

set_option maxRecDepth 100000 in
set_option maxHeartbeats 2000000 in
theorem put_text (base : Nat) (v : Value) (l : List PF) (t : ByteArray) (w : World) (hr : PFRow base w v l) (hb : base ≤ w.heap.size) (hl : l.length ≤ 1000000) (ht : t.size ≤ 1000000) (hx : ∀ x ∈ l, x.2.2.size ≤ 1000000) :
    Calls Tryd.prog 33 #[v, .agg #[.int .u8 0, .int .i64 0, .string t]] w fun e w' => ∃ v', e = .returned v' ∧ PFRow base w' v' (putR l t) ∧ Below base w w' := by
  have kp := Blk.new w #[.int .u8 0, .int .i64 0, .string t] 43
  have hBa := (Below.refl base w).alloc hb (.cells #[.int .u8 0, .int .i64 0, .string t] 43)
  have hra := hr.later ((Below.refl w.heap.size w).alloc (Nat.le_refl _) (.cells #[.int .u8 0, .int .i64 0, .string t] 43))
  have cp := kp.cell
  rcases List.eq_nil_or_concat l with rfl | ⟨l', x, rfl⟩
  · obtain ⟨a, cap, rfl⟩ := hr.form
    clear hr
    go_enter Tryd.func33, Tryd.ntmps33
    go_wp2_with (at_builtin; go_must (refine wpList_snoc_pf (x := (0, 0, t)) rfl _ _ rfl base _ _ rfl hra _ (by simp) rfl (by simp) hBa (Nat.le_refl _) (by simp; omega) ?_); intro v' w2 hrow2 hB2)
    go_ret
    exact ⟨v', rfl, hrow2, hB2⟩
  · rw [List.concat_eq_append] at *
    obtain ⟨b, c, u⟩ := x
    obtain ⟨g, cap, rfl, hg0, hg, hcap, hmx, hcell⟩ := hra.read.resolve_left (by simp)
    have hc := hcell l'.length (by simp)
    rw [List.getElem_append_right (Nat.le_refl _)] at hc
    simp only [Nat.sub_self, List.getElem_cons_zero] at hc
    obtain ⟨hc0, hc1, hc2⟩ := hc
    have hlen : (l' ++ [(b, c, u)]).length = l'.length + 1 := by simp
    rw [hlen] at hra hl hcap
    clear hcell hr
    have i1 : IntKind.i64.wrap (((l'.length + 1 : Nat) : Int) - 1) = (l'.length : Int) := by rw [show (((l'.length + 1 : Nat) : Int) - 1) = (l'.length : Int) by omega]; exact IntWalk.i64_in _ (by omega)
    rw [hlen]
    have hu : u.size ≤ 1000000 := hx (b, c, u) (by simp)
    have i2 : IntKind.i64.wrap (l'.length : Int) = (l'.length : Int) := IntWalk.i64_in _ (by omega)
    by_cases hb0 : b = 0
    · subst hb0
      rw [putR_text]
      have hra' : PFRow base (w.alloc (.cells #[.int .u8 0, .int .i64 0, .string t] 43)).drew (.slice (some ⟨g, 0, none⟩) (l'.length + 1) cap) (l' ++ [(0, c, u)]) := hra
      have hturn := hra'.turn (u ++ t)
      go_enter Tryd.func33, Tryd.ntmps33
      go_upto_region 3 with fail
      generalize hw1 : w.alloc (.cells #[.int .u8 0, .int .i64 0, .string t] 43) = w1 at *
      have cp' : w1.drew.cell? ⟨w.heap.size, 2, none⟩ = some (.string t) := cp 2
      have hc2' : w1.drew.cell? ⟨g, l'.length * 3 + 2, none⟩ = some (.string u) := hc2
      have hf2' : w1.drew.frozen? ⟨g, l'.length * 3 + 2, none⟩ = false := hra.frz _
      have hBd : Below base w w1.drew := hBa.drew
      have hlt1 : (l'.length : Int) < (l'.length : Int) + 1 := by omega
      have hu2 : ¬ 9223372036854775807 < u.size + t.size := by omega
      go_still_tail 11, (by kernel_rfl)
      change wpList _ _ _ _ _ w1.drew
      generalize w1.drew = w6 at *
      have HT := Lib.hid hturn; have HBD := Lib.hid hBd
      clear hturn hBd hra hra' hc0 hc1 hc2 cp kp hBa
      go_wp2_with fail
      go_ret
      exact ⟨_, rfl, HT.out, HBD.out.setCell (p := ⟨g, l'.length * 3 + 2, none⟩) hg0 _⟩
    · rw [putR_letter hb0]
      have hbe : (b == 0) = false := by simpa using hb0
      go_enter Tryd.func33, Tryd.ntmps33
      go_wp2_with (at_builtin; go_must (refine wpList_snoc_pf (x := (0, 0, t)) rfl _ _ rfl base _ (l' ++ [(b, c, u)]) rfl hra _ (by simp) rfl (by rw [hlen]; omega) hBa (Nat.le_refl _) (by simp; omega) ?_); intro v' w2 hrow2 hB2)
      go_ret
      exact ⟨v', rfl, hrow2, hB2⟩

set_option maxRecDepth 100000 in
set_option maxHeartbeats 2000000 in
theorem rMore_any (base : Nat) (v : Value) (l : List PF) (t : ByteArray) (w : World) (hr : PFRow base w v l) (hb : base ≤ w.heap.size) (hl : l.length ≤ 1000000) (ht : t.size ≤ 1000000) (hx : ∀ x ∈ l, x.2.2.size ≤ 1000000) :
    Calls Tryd.prog 39 #[v, .string t] w fun e w' => ∃ v', e = .returned v' ∧ PFRow base w' v' (putR l t) ∧ Below base w w' := by
  rcases List.eq_nil_or_concat l with rfl | ⟨l', x, rfl⟩
  · obtain ⟨a, cap, rfl⟩ := hr.form
    go_enter Tryd.func39, Tryd.ntmps39
    go_wp2_with (at_builtin; go_must (refine wpList_snoc_pf (x := (0, 0, t)) rfl _ _ rfl base _ _ rfl hr _ (by simp) rfl (by simp) (Below.refl base w) (Nat.le_refl _) hb ?_); intro v' w2 hrow2 hB2)
    go_ret
    exact ⟨v', rfl, hrow2, hB2⟩
  · rw [List.concat_eq_append] at *
    obtain ⟨b, c, u⟩ := x
    obtain ⟨g, cap, rfl, hg0, hg, hcap, hmx, hcell⟩ := hr.read.resolve_left (by simp)
    have hc := hcell l'.length (by simp)
    rw [List.getElem_append_right (Nat.le_refl _)] at hc
    simp only [Nat.sub_self, List.getElem_cons_zero] at hc
    obtain ⟨hc0, hc1, hc2⟩ := hc
    have hlen : (l' ++ [(b, c, u)]).length = l'.length + 1 := by simp
    rw [hlen] at hr hl hcap
    clear hcell
    have i1 : IntKind.i64.wrap (((l'.length + 1 : Nat) : Int) - 1) = (l'.length : Int) := by rw [show (((l'.length + 1 : Nat) : Int) - 1) = (l'.length : Int) by omega]; exact IntWalk.i64_in _ (by omega)
    rw [hlen]
    have hu : u.size ≤ 1000000 := hx (b, c, u) (by simp)
    have i2 : IntKind.i64.wrap (l'.length : Int) = (l'.length : Int) := IntWalk.i64_in _ (by omega)
    by_cases hb0 : b = 0
    · subst hb0
      rw [putR_text]
      have hturn := hr.turn (u ++ t)
      have hf2 := hr.frz (l'.length * 3 + 2)
      have HT := Lib.hid hturn; clear hturn hr
      go_enter Tryd.func39, Tryd.ntmps39
      go_wp2_with fail
      go_ret
      exact ⟨_, rfl, HT.out, (Below.refl base w).setCell (p := ⟨g, l'.length * 3 + 2, none⟩) hg0 _⟩
    · rw [putR_letter hb0]
      have hbe : (b == 0) = false := by simpa using hb0
      go_enter Tryd.func39, Tryd.ntmps39
      go_wp2_with (at_builtin; go_must (refine wpList_snoc_pf (x := (0, 0, t)) rfl _ _ rfl base _ (l' ++ [(b, c, u)]) rfl hr _ (by simp) rfl (by rw [hlen]; omega) (Below.refl base w) (Nat.le_refl _) hb ?_); intro v' w2 hrow2 hB2)
      go_ret
      exact ⟨v', rfl, hrow2, hB2⟩
end Go.Proofs.YtbnhfjhhbgmhfaaDoor
