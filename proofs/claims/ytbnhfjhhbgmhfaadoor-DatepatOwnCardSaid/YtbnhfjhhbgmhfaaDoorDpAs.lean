/-
  Patterns of dates: Apart of two texts.
-/
import Derived.Test.YtbnhfjhhbgmhfaaDoorDpAr
namespace Go.Proofs.YtbnhfjhhbgmhfaaDoor
open Go.RowKit Go.PlainAid

/-- What Apart hands back. -/
def dpApart (a b : ByteArray) : Int × Int := if (skel a).2.1 = 0 ∧ (skel b).2.1 = 0 then (apartL (skel a).1 (skel b).1, 0) else (0, 272)

set_option maxRecDepth 100000 in
set_option maxHeartbeats 4000000 in
theorem apartS_any (a b : ByteArray) (w : World) (hsa : a.size ≤ 1000000000000000) (hsb : b.size ≤ 1000000000000000) :
    Calls Tryd.prog 25 #[.string a, .string b] w fun e w' => e = .returned (.tuple #[.int .i64 (dpApart a b).1, .int .i64 (dpApart a b).2]) ∧ Below w.heap.size w w' := by
  have hka := skel_sk a
  have hkb := skel_sk b
  have hqa := fun W => skel_any a W hsa
  have hqb := fun W => skel_any b W hsb
  have hr : dpApart a b = if (skel a).2.1 = 0 ∧ (skel b).2.1 = 0 then (apartL (skel a).1 (skel b).1, 0) else (0, 272) := rfl
  generalize dpApart a b = R at *
  generalize skel a = ra at *
  generalize skel b = rb at *
  obtain ⟨LA, EA, AA⟩ := ra
  obtain ⟨LB, EB, AB⟩ := rb
  simp only at hr
  have hap := fun va vb W h1 h2 => apart_any va vb LA LB W h1 h2 hka hkb
  have HAP := Lib.hid hap
  have HR := Lib.hid hr
  have hla := hka.1
  have hlb := hkb.1
  simp only at hla hlb
  clear hap hr hka hkb
  go_enter Tryd.func25, Tryd.ntmps25
  go_wp2_with fail
  refine (hqa _).mono ?_
  rintro e w1 ⟨⟨v, rfl, hrow⟩, hB1⟩
  have hat := hrow.at (by show LA.length ≤ _; omega)
  obtain ⟨va, vc, rfl⟩ := hrow.form
  have sp := Blk.new w1 #[.int .i64 EA, .int .i64 AA] 26
  have hA := (Below.refl w1.heap.size w1).alloc (Nat.le_refl _) (.cells #[.int .i64 EA, .int .i64 AA] 26)
  have hat1 := hat.later hA
  have hB2 := hB1.alloc hB1.size (.cells #[.int .i64 EA, .int .i64 AA] 26)
  clear hrow hat hqa hA
  go_wp2_with fail
  refine (hqb _).mono ?_
  rintro e w3 ⟨⟨v, rfl, hrow⟩, hB3⟩
  have hat := hrow.at (by show LB.length ≤ _; omega)
  obtain ⟨vb, vd, rfl⟩ := hrow.form
  have sp3 := sp.on hB3
  have hB4 := hB2.trans (hB3.mono hB2.size)
  have hat3 := hat1.later hB3
  have hlt := sp3.lt
  have sq := Blk.new w3 #[.int .i64 EB, .int .i64 AB] 26
  have hA := (Below.refl w3.heap.size w3).alloc (Nat.le_refl _) (.cells #[.int .i64 EB, .int .i64 AB] 26)
  have hatb := hat.later hA
  have hata := hat3.later hA
  have sp5 := sp3.on hA
  have hB5 := hB4.alloc hB4.size (.cells #[.int .i64 EB, .int .i64 AB] 26)
  have c0 := sp5.cell 0
  have d0 := sq.cell 0
  simp at c0 d0
  clear hrow hat hat1 hat3 sp sp3 hA hqb
  by_cases ha : EA = 0
  · have haI : (EA != 0) = false := by simp [ha]
    by_cases hb : EB = 0
    · have hbI : (EB != 0) = false := by simp [hb]
      have hr2 : R = (apartL LA LB, 0) := by rw [HR.out, if_pos ⟨ha, hb⟩]
      have HR2 := Lib.hid hr2
      clear hr2 ha hb
      go_wp2_with fail
      refine (HAP.out _ _ _ hata hatb).mono ?_
      rintro e w5 ⟨rfl, hB6⟩
      go_wp2_with fail
      go_ret2
      exact ⟨by rw [HR2.out]; rfl, hB5.trans (hB6.mono hB5.size)⟩
    · have hbI : (EB != 0) = true := by simpa using hb
      have hr2 : R = (0, 272) := by rw [HR.out, if_neg (fun h => hb h.2)]
      have HR2 := Lib.hid hr2
      clear hr2 ha hb
      go_wp2_with fail
      go_ret2
      exact ⟨by rw [HR2.out]; rfl, hB5⟩
  · have haI : (EA != 0) = true := by simpa using ha
    have hr2 : R = (0, 272) := by rw [HR.out, if_neg (fun h => ha h.1)]
    have HR2 := Lib.hid hr2
    clear hr2 ha
    go_wp2_with fail
    go_ret2
    exact ⟨by rw [HR2.out]; rfl, hB5⟩
end Go.Proofs.YtbnhfjhhbgmhfaaDoor
