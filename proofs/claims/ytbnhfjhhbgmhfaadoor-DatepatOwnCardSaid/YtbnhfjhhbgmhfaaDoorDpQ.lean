/-
  Patterns of dates: what a quote holds.
-/
import Derived.Test.YtbnhfjhhbgmhfaaDoorDpM
import Derived.Test.YtbnhfjhhbgmhfaaDoorBld
namespace Go.Proofs.YtbnhfjhhbgmhfaaDoor
open Go.RowKit Go.PlainAid

/-- What quoted hands back. -/
def quotV (r : Option (ByteArray × Nat)) : Value := match r with | none => .tuple #[.string ⟨#[]⟩, .int .i64 (-1)] | some (t, j) => .tuple #[.string t, .int .i64 j]
theorem byteCells_snoc (l : List UInt8) (b : UInt8) : Lib.byteCells (l ++ [b]) = Lib.byteCells l ++ [.int .u8 b.toNat] := by simp [Lib.byteCells]
theorem one_byte (t : ByteArray) (i : Nat) (h : i < t.size) : (t.extract i (i + 1)).data.toList = [t[i]'h] := by
  have hl : i < t.data.toList.length := by rw [Array.length_toList]; exact h
  rw [ByteArray.data_extract, Array.toList_extract, List.extract_eq_take_drop]
  rw [show i + 1 - i = 1 by omega, List.drop_eq_getElem_cons hl]
  rfl

set_option maxRecDepth 100000 in
set_option maxHeartbeats 2000000 in
theorem quoted_any (t : ByteArray) (w : World) (ht : t.size ≤ 1000000) :
    Calls Tryd.prog 34 #[.string t] w fun e w' => e = .returned (quotV (qR t 0 ⟨#[]⟩)) ∧ Below w.heap.size w w' := by
  have hfb : IsBld w.heap.size w.heap.size (Lib.byteCells (⟨#[]⟩ : ByteArray).data.toList) (w.alloc (.cells #[.pointer none, .slice none 0 0] 68)) := Lib.fresh_isBuilder _ _ w
  have hBa := (Below.refl w.heap.size w).alloc (Nat.le_refl _) (.cells #[.pointer none, .slice none 0 0] 68)
  go_enter Tryd.func34, Tryd.ntmps34
  go_wp2_with fail
  have HFB := Lib.hid hfb; have HBA := Lib.hid hBa
  clear hfb hBa
  go_loopg [5] t.size (fun g s5 wr => ∃ (i : Nat) (acc : ByteArray), s5 = .int .i64 (i : Int) ∧ g = t.size - i ∧ qR t 0 ⟨#[]⟩ = qR t i acc ∧ acc.size ≤ i ∧ IsBld w.heap.size w.heap.size (Lib.byteCells acc.data.toList) wr ∧ Below w.heap.size w wr)
  case atStart => exact ⟨0, ⟨#[]⟩, rfl, rfl, rfl, Nat.zero_le _, HFB.out, HBA.out⟩
  case round =>
    obtain ⟨i, acc, rfl, hg, hq, ha, hb, hB⟩ := hrel
    have HQ := Lib.hid hq; have HBD := Lib.hid hb
    have hz := hB.size
    have hlen : (Lib.byteCells acc.data.toList).length = acc.size := by rw [Lib.byteCells_length, Array.length_toList]; rfl
    clear hq hb
    by_cases hi : i < t.size
    · have hbt : ((t[i]'hi).toNat : Int) = bt t i := by unfold bt; rw [dif_pos hi]
      by_cases h39 : bt t i = 39
      · have hsx := fun W hb hB => Tryd.Builder_String_any w.heap.size w.heap.size acc.data.toList W hb hB
        have eacc : (⟨acc.data.toList.toArray⟩ : ByteArray) = acc := rfl
        rw [eacc] at hsx
        by_cases h2 : i + 1 < t.size
        · have hbt2 : ((t[i + 1]'h2).toNat : Int) = bt t (i + 1) := by unfold bt; rw [dif_pos h2]
          have i1 : IntKind.i64.wrap ((i : Int) + 1) = (i : Int) + 1 := IntWalk.i64_in _ (by omega)
          have hne : ¬ i + 1 = t.size := by omega
          by_cases h3 : bt t (i + 1) = 39
          · have hnew := qR_two (acc := acc) h2 h39 h3
            have HN := Lib.hid hnew
            have hw := fun W hb hB => writeByte_any w.heap.size w.heap.size (Lib.byteCells acc.data.toList) 39 W hb (by rw [hlen]; omega) hB
            clear hnew hsx
            go_wp2_with fail
            refine (hw _ HBD.out hz).mono ?_
            rintro e w2 ⟨rfl, hb2, hB2⟩
            have hBx := hB.trans hB2
            go_wp2_with fail
            go_roundg (t.size - (i + 2))
            case rel =>
              refine ⟨i + 2, acc ++ ⟨#[39]⟩, congrArg (Value.int .i64) (by omega), rfl, by rw [HQ.out, HN.out], ?_, .inr ?_, hBx⟩
              · rw [ByteArray.size_append, show (⟨#[39]⟩ : ByteArray).size = 1 from rfl]; omega
              · rw [ByteArray.data_append, Array.toList_append, show (⟨#[39]⟩ : ByteArray).data.toList = [39] from rfl, byteCells_snoc]
                exact hb2
            case measure => omega
          · have hne3 : (bt t (i + 1) == 39) = false := by simpa using h3
            have hne4 : (bt t (i + 1) != 39) = true := by simpa using h3
            have hcl := qR_close (acc := acc) hi h39 (fun h => h3 h.2)
            have HC := Lib.hid hcl
            clear hcl h3
            go_wp2_with fail
            refine (hsx _ HBD.out hz).mono ?_
            rintro e w2 ⟨rfl, hB2⟩
            go_wp2_with fail
            go_ret2
            exact ⟨by rw [HQ.out, HC.out]; rfl, hB.trans hB2⟩
        · have he : i + 1 = t.size := by omega
          have hcl := qR_close (acc := acc) hi h39 (fun h => h2 h.1)
          have HC := Lib.hid hcl
          have hei : ((i : Int) + 1 == (t.size : Int)) = true := by simp; omega
          have HE := Lib.hid he
          clear hcl he h2
          go_wp2_with fail
          refine (hsx _ HBD.out hz).mono ?_
          rintro e w2 ⟨rfl, hB2⟩
          go_wp2_with fail
          go_ret2
          exact ⟨by rw [HQ.out, HC.out]; rfl, hB.trans hB2⟩
      · have hne : (bt t i == 39) = false := by simpa using h39
        have hnew := qR_plain (acc := acc) hi h39
        have HN := Lib.hid hnew
        have HBT := Lib.hid hbt
        have hw := fun W hb hB => writeByte_any w.heap.size w.heap.size (Lib.byteCells acc.data.toList) (bt t i) W hb (by rw [hlen]; omega) hB
        clear hnew h39
        go_wp2_with fail
        refine (hw _ HBD.out hz).mono ?_
        rintro e w2 ⟨rfl, hb2, hB2⟩
        have hBx := hB.trans hB2
        go_wp2_with fail
        go_roundg (t.size - (i + 1))
        case rel =>
          refine ⟨i + 1, acc ++ t.extract i (i + 1), by push_cast; rfl, rfl, by rw [HQ.out, HN.out], ?_, .inr ?_, hBx⟩
          · rw [ByteArray.size_append]; simp; omega
          · rw [ByteArray.data_append, Array.toList_append, one_byte t i hi, byteCells_snoc, HBT.out]
            exact hb2
        case measure => omega
    · have hend := qR_end (acc := acc) hi
      have HE := Lib.hid hend
      clear hend
      go_wp2_with fail
      go_ret2
      exact ⟨by rw [HQ.out, HE.out]; rfl, hB⟩
end Go.Proofs.YtbnhfjhhbgmhfaaDoor
