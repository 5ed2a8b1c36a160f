/-
  The document's answer: rows of bytes; Taken, Escape.
-/
import Derived.Test.YtdipbfchlopeaaaGreatDoorXnP
import Derived.Laws.BytesArg
namespace Go.Proofs.YtdipbfchlopeaaaGreatDoor
open Go.RowKit Go.PlainAid

/-- A row of bytes of the call's own. -/
def Br (lo : Nat) (w : World) (v : Value) (l : List UInt8) : Prop := w.ownsRow lo 5 1 v l.length (Lib.byteCells l)
section
variable {lo : Nat} {w w' : World} {v v' : Value} {l l' : List UInt8}
theorem Br.nil (lo : Nat) (w : World) : Br lo w (.slice none 0 0) [] := World.ownsRow_nil _ _ _ _
theorem Br.form (h : Br lo w v l) : ∃ a c, v = .slice a l.length c := by
  rcases h.2 with ⟨hv, h0⟩ | ⟨g, cap, cur, hv, _⟩
  · exact ⟨none, 0, by rw [hv, h0]⟩
  · exact ⟨_, _, hv⟩
theorem Br.later (h : Br lo w v l) (hb : ∀ g, v.ownBlock = some g → w'.heap[g]? = w.heap[g]?) : Br lo w' v l := ownsRow_later h hb
theorem Br.lt (h : Br lo w v l) : ∀ g, v.ownBlock = some g → lo ≤ g ∧ g < w.heap.size := World.ownsRow.lt h
theorem Br.on (h : Br lo w v l) (hB : Below w.heap.size w w') : Br lo w' v l := h.later fun g hg => hB.block g (h.lt g hg).2
theorem Br.more {s : ByteArray} (h : w'.ownsRow lo 5 1 v' (l.length + s.size) (Lib.byteCells l ++ Lib.strCells s)) : Br lo w' v' (l ++ s.data.toList) := by
  unfold Br
  rw [List.length_append, Array.length_toList]
  simpa [Lib.byteCells, Lib.strCells] using h
theorem Br.more1 {b : UInt8} (h : w'.ownsRow lo 5 1 v' (l.length + 1) (Lib.byteCells l ++ [.int .u8 (b.toNat : Int)])) : Br lo w' v' (l ++ [b]) := by
  unfold Br
  rw [List.length_append]
  simpa [Lib.byteCells] using h
set_option maxRecDepth 100000 in
/-- 'string(out)'. -/
theorem Br.text (h : Br lo w v l) : (convert 78 9 v).run Tryz.prog w = .ok (.string ⟨l.toArray⟩) w := by
  rcases h.2 with ⟨hv, h0⟩ | ⟨g, cap, cur, hv, _⟩
  · have : l = [] := List.eq_nil_of_length_eq_zero h0
    subst this hv
    exact run_convert_bytes_nil (P := Tryz.prog) w 78 5 Tryz.underlying78 Tryz.underlying5 0 0 9 Tryz.underlying9
  · subst hv
    have hby : Lib.Bytes w g 0 ⟨l.toArray⟩ := fun i hi => by
      have hc := World.ownsRow.cellAt h i (by have : i < l.length := hi; omega)
      rw [Nat.zero_add, hc]
      have hi' : i < l.length := hi
      simp only [Lib.byteCells, List.getElem?_map, List.getElem?_eq_getElem hi', Option.map_some]
      rfl
    exact Lib.run_convert_whole (P := Tryz.prog) w 78 5 9 Tryz.underlying78 Tryz.underlying5 Tryz.underlying9 _ _ _ hby cap
end
section
set_option maxRecDepth 100000
set_option maxHeartbeats 4000000
variable (s : ByteArray) (w : World)
theorem rTaken_any (hz : s.size ≤ 1000000000000000) : Calls Tryz.prog 65 #[.string s] w fun e w' => e = .returned (.bool (takenX s)) ∧ w = w' := by
  go_enter Tryz.func65, Tryz.ntmps65
  go_wp2
  go_loop [3] (fun i => ∃ (pos g : Nat), i = .int .i64 pos ∧ pos ≤ s.size ∧ s.size < pos + g ∧ takenX s = takenF s g pos) (fun i => s.size - (Go.RowKit.intOf i).toNat)
  case atStart => exact ⟨0, s.size + 1, rfl, Nat.zero_le _, by omega, rfl⟩
  case round =>
    obtain ⟨pos, g, rfl, hle, hgf, hc⟩ := hrel
    obtain ⟨g, rfl⟩ : ∃ k, g = k + 1 := ⟨g - 1, by omega⟩
    have HC := Lib.hid hc; clear hc
    by_cases hp : pos < s.size
    · have hwd := wd_pos s pos hp
      have hin := wd_in s pos hp
      have c := rForm_in s pos hz hp w
      rw [formS_wd] at c
      change Calls _ _ _ _ (fun e w' => e = .returned (.tuple #[.int .i32 (rn s pos), .int .i64 (wd s pos)]) ∧ w = w') at c
      have hch := rChar_any (rn s pos) w
      cases hn : rChar (rn s pos) with
      | false =>
        rw [hn] at hch
        have HT := Lib.hid (HC.out.trans (takenF_no hp hn))
        clear hn
        go_wp2_with (first | (go_at_call 91; refine c.mono ?_; rintro e w' ⟨rfl, rfl⟩) | (go_at_call 92; refine hch.mono ?_; rintro e w' ⟨rfl, rfl⟩))
        go_ret
        exact ⟨ret_bool HT.out.symm, rfl⟩
      | true =>
        rw [hn] at hch
        have HT := Lib.hid (HC.out.trans (takenF_go hp hn))
        clear hn
        go_wp2_with (first | (go_at_call 91; refine c.mono ?_; rintro e w' ⟨rfl, rfl⟩) | (go_at_call 92; refine hch.mono ?_; rintro e w' ⟨rfl, rfl⟩))
        go_round
        case rel => exact ⟨pos + wd s pos, g, by go_num, hin, by omega, HT.out⟩
        case measure => simp [Go.RowKit.intOf]; omega
    · have HT := Lib.hid (HC.out.trans (takenF_end (by omega)))
      go_wp2
      go_ret
      exact ⟨ret_bool HT.out.symm, rfl⟩
theorem escC_cases (c : UInt8) : escC c = [38, 97, 109, 112, 59] ∧ c = 38 ∨ escC c = [38, 108, 116, 59] ∧ c = 60 ∨ escC c = [38, 103, 116, 59] ∧ c = 62 ∨ escC c = [38, 113, 117, 111, 116, 59] ∧ c = 34 ∨ (escC c = [c] ∧ c ≠ 38 ∧ c ≠ 60 ∧ c ≠ 62 ∧ c ≠ 34) := by
  unfold escC
  by_cases h1 : c = 38
  · rw [if_pos h1]; exact .inl ⟨rfl, h1⟩
  · rw [if_neg h1]
    by_cases h2 : c = 60
    · rw [if_pos h2]; exact .inr (.inl ⟨rfl, h2⟩)
    · rw [if_neg h2]
      by_cases h3 : c = 62
      · rw [if_pos h3]; exact .inr (.inr (.inl ⟨rfl, h3⟩))
      · rw [if_neg h3]
        by_cases h4 : c = 34
        · rw [if_pos h4]; exact .inr (.inr (.inr (.inl ⟨rfl, h4⟩)))
        · rw [if_neg h4]; exact .inr (.inr (.inr (.inr ⟨rfl, h1, h2, h3, h4⟩)))
theorem esc_le6 (c : UInt8) : (escC c).length ≤ 6 := by
  rcases escC_cases c with ⟨h, _⟩ | ⟨h, _⟩ | ⟨h, _⟩ | ⟨h, _⟩ | ⟨h, _⟩ <;> rw [h] <;> simp
theorem rEscape_any (hz : s.size ≤ 4000000000) : Calls Tryz.prog 40 #[.string s] w fun e w' => e = .returned (.string (escB s)) ∧ Below w.heap.size w w' := by
  obtain ⟨i0, hi, hz0, hz1, hz2⟩ := info_parts binfo
  have hbt := get_bt s
  go_enter Tryz.func40, Tryz.ntmps40
  go_wp2_with fail
  go_loopg [4, 3] (s.size + 1) (fun f s4 s3 wx => ∃ (i : Nat) (l : List UInt8), s4 = .int .i64 (i : Int) ∧ f + i = s.size + 1 ∧ i ≤ s.size ∧ Br w.heap.size wx s3 l ∧ l.length ≤ 6 * i ∧ Below w.heap.size w wx ∧ s.data.toList.flatMap escC = l ++ (s.data.toList.drop i).flatMap escC)
  case atStart => exact ⟨0, [], rfl, rfl, Nat.zero_le _, Br.nil _ _, Nat.zero_le _, Below.refl _ _, by simp⟩
  case round =>
    obtain ⟨i, l, rfl, hg, hi6, hrow, hl, hB, hfl⟩ := hrel
    have HFL := Lib.hid hfl; have HL := Lib.hid (And.intro hl (And.intro hg hi6)); have HB := Lib.hid hB
    have hown : wr.ownsRow w.heap.size 5 1 _ l.length (Lib.byteCells l) := hrow
    have hbase := hB.size
    have htx := hrow.text
    obtain ⟨va, vc, hv⟩ := hrow.form
    subst hv
    have hi0 : (0 : Int) ≤ i := by omega
    by_cases hlt : i < s.size
    · have hI : (i : Int) < s.size := by omega
      have f1 : IntKind.i64.wrap ((i : Int) + 1) = (i : Int) + 1 := IntWalk.i64_in _ (by omega)
      have hdr : s.data.toList.drop i = (s.data[i]'hlt) :: s.data.toList.drop (i + 1) := by
        rw [List.drop_eq_getElem_cons (by simpa using hlt)]
        simp
      obtain ⟨c, hc⟩ : ∃ c, s.data[i]'hlt = c := ⟨_, rfl⟩
      have hbc : bt s i = (c.toNat : Int) := by rw [← hc]; exact (get_bt s i hlt).symm
      have hst : s.data.toList.flatMap escC = (l ++ escC c) ++ (s.data.toList.drop (i + 1)).flatMap escC := by
        rw [hfl, hdr, hc, List.flatMap_cons, List.append_assoc]
      have HST := Lib.hid hst; have HLT := Lib.hid hlt
      have hel := esc_le6 c
      have HEL := Lib.hid hel
      clear hst hdr hfl hg hi6 hB hrow hl hc hel htx
      rcases escC_cases c with ⟨he, rfl⟩ | ⟨he, rfl⟩ | ⟨he, rfl⟩ | ⟨he, rfl⟩ | ⟨he, h1, h2, h3, h4⟩
      · have hbv : bt s i = 38 := hbc
        rw [he] at HST HEL
        have hc6 : l.length + 5 ≤ 6 * s.size := by have := HL.out; have := HLT.out; omega
        clear hbc he
        go_wp2_with (at_builtin; refine Lib.wpList_append_own_string _ rfl _ _ 78 9 rfl w.heap.size 5 i0 Tryz.underlying78 Tryz.underlying9 hi hz0 hz1 hz2 _ _ _ rfl hown ⟨#[38, 97, 109, 112, 59]⟩ rfl ?c3 ?c4 ?c5 ?_)
        case c3 => unfold maxLen; simp [ByteArray.size]; omega
        case c4 => simp [ByteArray.size]; omega
        case c5 => exact hbase
        intro v' w2 hown' hgrow _
        have hB2 := Lib.hid (grown_below hgrow hbase (fun k hk => (World.ownsRow.lt hown k hk).1))
        have HR := Lib.hid (Br.more (s := ⟨#[38, 97, 109, 112, 59]⟩) hown')
        clear hgrow hown'
        go_wp2_with fail
        go_roundg (s.size - i)
        case rel => exact ⟨i + 1, l ++ [38, 97, 109, 112, 59], by simp, by have := HL.out; have := HLT.out; omega, HLT.out, HR.out, by have := HL.out; simp; omega, HB.out.trans hB2.out, HST.out⟩
        case measure => have := HL.out; have := HLT.out; omega
      · have hbv : bt s i = 60 := hbc
        rw [he] at HST HEL
        have hc6 : l.length + 4 ≤ 6 * s.size := by have := HL.out; have := HLT.out; omega
        clear hbc he
        go_wp2_with (at_builtin; refine Lib.wpList_append_own_string _ rfl _ _ 78 9 rfl w.heap.size 5 i0 Tryz.underlying78 Tryz.underlying9 hi hz0 hz1 hz2 _ _ _ rfl hown ⟨#[38, 108, 116, 59]⟩ rfl ?c3 ?c4 ?c5 ?_)
        case c3 => unfold maxLen; simp [ByteArray.size]; omega
        case c4 => simp [ByteArray.size]; omega
        case c5 => exact hbase
        intro v' w2 hown' hgrow _
        have hB2 := Lib.hid (grown_below hgrow hbase (fun k hk => (World.ownsRow.lt hown k hk).1))
        have HR := Lib.hid (Br.more (s := ⟨#[38, 108, 116, 59]⟩) hown')
        clear hgrow hown'
        go_wp2_with fail
        go_roundg (s.size - i)
        case rel => exact ⟨i + 1, l ++ [38, 108, 116, 59], by simp, by have := HL.out; have := HLT.out; omega, HLT.out, HR.out, by have := HL.out; simp; omega, HB.out.trans hB2.out, HST.out⟩
        case measure => have := HL.out; have := HLT.out; omega
      · have hbv : bt s i = 62 := hbc
        rw [he] at HST HEL
        have hc6 : l.length + 4 ≤ 6 * s.size := by have := HL.out; have := HLT.out; omega
        clear hbc he
        go_wp2_with (at_builtin; refine Lib.wpList_append_own_string _ rfl _ _ 78 9 rfl w.heap.size 5 i0 Tryz.underlying78 Tryz.underlying9 hi hz0 hz1 hz2 _ _ _ rfl hown ⟨#[38, 103, 116, 59]⟩ rfl ?c3 ?c4 ?c5 ?_)
        case c3 => unfold maxLen; simp [ByteArray.size]; omega
        case c4 => simp [ByteArray.size]; omega
        case c5 => exact hbase
        intro v' w2 hown' hgrow _
        have hB2 := Lib.hid (grown_below hgrow hbase (fun k hk => (World.ownsRow.lt hown k hk).1))
        have HR := Lib.hid (Br.more (s := ⟨#[38, 103, 116, 59]⟩) hown')
        clear hgrow hown'
        go_wp2_with fail
        go_roundg (s.size - i)
        case rel => exact ⟨i + 1, l ++ [38, 103, 116, 59], by simp, by have := HL.out; have := HLT.out; omega, HLT.out, HR.out, by have := HL.out; simp; omega, HB.out.trans hB2.out, HST.out⟩
        case measure => have := HL.out; have := HLT.out; omega
      · have hbv : bt s i = 34 := hbc
        rw [he] at HST HEL
        have hc6 : l.length + 6 ≤ 6 * s.size := by have := HL.out; have := HLT.out; omega
        clear hbc he
        go_wp2_with (at_builtin; refine Lib.wpList_append_own_string _ rfl _ _ 78 9 rfl w.heap.size 5 i0 Tryz.underlying78 Tryz.underlying9 hi hz0 hz1 hz2 _ _ _ rfl hown ⟨#[38, 113, 117, 111, 116, 59]⟩ rfl ?c3 ?c4 ?c5 ?_)
        case c3 => unfold maxLen; simp [ByteArray.size]; omega
        case c4 => simp [ByteArray.size]; omega
        case c5 => exact hbase
        intro v' w2 hown' hgrow _
        have hB2 := Lib.hid (grown_below hgrow hbase (fun k hk => (World.ownsRow.lt hown k hk).1))
        have HR := Lib.hid (Br.more (s := ⟨#[38, 113, 117, 111, 116, 59]⟩) hown')
        clear hgrow hown'
        go_wp2_with fail
        go_roundg (s.size - i)
        case rel => exact ⟨i + 1, l ++ [38, 113, 117, 111, 116, 59], by simp, by have := HL.out; have := HLT.out; omega, HLT.out, HR.out, by have := HL.out; simp; omega, HB.out.trans hB2.out, HST.out⟩
        case measure => have := HL.out; have := HLT.out; omega
      · have hn : ∀ k : UInt8, c ≠ k → (c.toNat : Int) ≠ (k.toNat : Int) := fun k hk h => hk (UInt8.toNat_inj.1 (by omega))
        have n1 : ¬ bt s i = 38 := by rw [hbc]; exact hn 38 h1
        have n2 : ¬ bt s i = 60 := by rw [hbc]; exact hn 60 h2
        have n3 : ¬ bt s i = 62 := by rw [hbc]; exact hn 62 h3
        have n4 : ¬ bt s i = 34 := by rw [hbc]; exact hn 34 h4
        have m1 : (bt s i == 38) = false := by simpa using n1
        have m2 : (bt s i == 60) = false := by simpa using n2
        have m3 : (bt s i == 62) = false := by simpa using n3
        have m4 : (bt s i == 34) = false := by simpa using n4
        rw [he] at HST HEL
        have hc6 : l.length + 1 ≤ 6 * s.size := by have := HL.out; have := HLT.out; omega
        have HBC := Lib.hid hbc
        clear hbc he hn h1 h2 h3 h4
        go_wp2_with (at_builtin; refine wpList_append_own _ rfl _ _ 78 rfl w.heap.size 5 i0 (.int .u8 0) 1 1 Tryz.underlying78 hi hz0 hz1 hz2 rfl (by decide) _ _ _ rfl (hown.alloc _) ⟨wr.heap.size, 0, none⟩ 1 1 [.int .u8 (bt s i)] rfl rfl ?c1 ?c2 ?c3 ?c4 ?c5 ?_)
        case c1 =>
          intro j u hj
          match j, hj with
          | 0, hj => simp at hj; subst hj; simp [Addr.add]
          | (j + 1), hj => simp at hj
        case c2 => intro u hu; simp at hu; rcases hu with rfl; rfl
        case c3 => unfold maxLen; omega
        case c4 => omega
        case c5 => simp; omega
        intro v' w2 hown' hgrow _
        have hA := (Below.refl w.heap.size wr).alloc hbase (.cells #[.int .u8 (bt s i)] 5)
        have hB2 := Lib.hid (hA.trans (grown_below hgrow (Nat.le_trans hbase hA.size) (fun k hk => (World.ownsRow.lt hown k hk).1)))
        rw [HBC.out] at hown'
        have HR := Lib.hid (Br.more1 hown')
        clear hgrow hown' hA
        go_wp2_with fail
        go_roundg (s.size - i)
        case rel => exact ⟨i + 1, l ++ [c], by simp, by have := HL.out; have := HLT.out; omega, HLT.out, HR.out, by have := HL.out; simp; omega, HB.out.trans hB2.out, HST.out⟩
        case measure => have := HL.out; have := HLT.out; omega
    · have hI : ¬ (i : Int) < s.size := by omega
      have hend : escB s = ⟨l.toArray⟩ := by
        unfold escB
        rw [hfl, List.drop_eq_nil_of_le (by simp; omega)]
        simp
      have HE := Lib.hid hend
      clear hend hfl hlt
      go_wp2_with fail
      go_ret
      rw [HE.out]
      exact ⟨rfl, HB.out⟩
end
end Go.Proofs.YtdipbfchlopeaaaGreatDoor
