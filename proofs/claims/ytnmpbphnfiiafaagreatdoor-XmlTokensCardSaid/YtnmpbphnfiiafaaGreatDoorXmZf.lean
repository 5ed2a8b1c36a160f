/-
  The reference: texts XmQe, XmQf.
-/
import Derived.Test.YtnmpbphnfiiafaaGreatDoorXmZd
import Derived.Laws.BytesArg
namespace Go.Proofs.YtnmpbphnfiiafaaGreatDoor
section
open Go.RowKit Go.PlainAid

/-- A row of bytes of the call's own. -/
def Br (lo : Nat) (w : World) (v : Value) (l : List UInt8) : Prop := w.ownsRow lo 5 1 v l.length (Lib.byteCells l)
section
variable {lo : Nat} {w w' : World} {v v' : Value} {l l' : List UInt8}
theorem Br.nil (lo : Nat) (w : World) : Br lo w (.slice none 0 0) [] := World.ownsRow_nil _ _ _ _
theorem Br.form (h : Br lo w v l) : ∃ a c, v = .slice a l.length c := by
  rcases h.2 with ⟨hv, h0⟩ | ⟨g, cap, cur, hv, _⟩
  · exact ⟨none, 0, by rw [hv, h0]⟩
  · exact ⟨_, _, hv⟩
theorem Br.later (h : Br lo w v l) (hb : ∀ g, v.ownBlock = some g → w'.heap[g]? = w.heap[g]?) : Br lo w' v l := ownsRow_later h hb
theorem Br.lt (h : Br lo w v l) : ∀ g, v.ownBlock = some g → lo ≤ g ∧ g < w.heap.size := World.ownsRow.lt h
theorem Br.on (h : Br lo w v l) (hB : Below w.heap.size w w') : Br lo w' v l := h.later fun g hg => hB.block g (h.lt g hg).2
theorem Br.more {s : ByteArray} (h : w'.ownsRow lo 5 1 v' (l.length + s.size) (Lib.byteCells l ++ Lib.strCells s)) : Br lo w' v' (l ++ s.data.toList) := by
  unfold Br
  rw [List.length_append, Array.length_toList]
  simpa [Lib.byteCells, Lib.strCells] using h
theorem Br.more1 {b : UInt8} (h : w'.ownsRow lo 5 1 v' (l.length + 1) (Lib.byteCells l ++ [.int .u8 (b.toNat : Int)])) : Br lo w' v' (l ++ [b]) := by
  unfold Br
  rw [List.length_append]
  simpa [Lib.byteCells] using h
set_option maxRecDepth 100000 in
/-- 'string(out)'. -/
theorem Br.text (h : Br lo w v l) : (convert 60 9 v).run Tryz.prog w = .ok (.string ⟨l.toArray⟩) w := by
  rcases h.2 with ⟨hv, h0⟩ | ⟨g, cap, cur, hv, _⟩
  · have : l = [] := List.eq_nil_of_length_eq_zero h0
    subst this hv
    exact run_convert_bytes_nil (P := Tryz.prog) w 60 5 Tryz.underlying60 Tryz.underlying5 0 0 9 Tryz.underlying9
  · subst hv
    have hby : Lib.Bytes w g 0 ⟨l.toArray⟩ := fun i hi => by
      have hc := World.ownsRow.cellAt h i (by have : i < l.length := hi; omega)
      rw [Nat.zero_add, hc]
      have hi' : i < l.length := hi
      simp only [Lib.byteCells, List.getElem?_map, List.getElem?_eq_getElem hi', Option.map_some]
      rfl
    exact Lib.run_convert_whole (P := Tryz.prog) w 60 5 9 Tryz.underlying60 Tryz.underlying5 Tryz.underlying9 _ _ _ hby cap
end
section
set_option maxRecDepth 100000
set_option maxHeartbeats 4000000
variable (s : ByteArray) (w : World)
theorem rTaken_any (hz : s.size ≤ 1000000000000000) : Calls Tryz.prog 21 #[.string s] w fun e w' => e = .returned (.bool (takenX s)) ∧ w = w' := by
  go_enter Tryz.func21, Tryz.ntmps21
  go_wp2
  go_loop [3] (fun i => ∃ (pos g : Nat), i = .int .i64 pos ∧ pos ≤ s.size ∧ s.size < pos + g ∧ takenX s = takenF s g pos) (fun i => s.size - (Go.RowKit.intOf i).toNat)
  case atStart => exact ⟨0, s.size + 1, rfl, Nat.zero_le _, by omega, rfl⟩
  case round =>
    obtain ⟨pos, g, rfl, hle, hgf, hc⟩ := hrel
    obtain ⟨g, rfl⟩ : ∃ k, g = k + 1 := ⟨g - 1, by omega⟩
    have HC := Lib.hid hc; clear hc
    by_cases hp : pos < s.size
    · have hwd := wd_pos s pos hp
      have hin := wd_in s pos hp
      have c := rForm_in s pos hz hp w
      rw [formS_wd] at c
      change Calls _ _ _ _ (fun e w' => e = .returned (.tuple #[.int .i32 (rn s pos), .int .i64 (wd s pos)]) ∧ w = w') at c
      have hch := rChar_any (rn s pos) w
      cases hn : rChar (rn s pos) with
      | false =>
        rw [hn] at hch
        have HT := Lib.hid (HC.out.trans (takenF_no hp hn))
        clear hn
        go_wp2_with (first | (go_at_call 49; refine c.mono ?_; rintro e w' ⟨rfl, rfl⟩) | (go_at_call 50; refine hch.mono ?_; rintro e w' ⟨rfl, rfl⟩))
        go_ret
        exact ⟨ret_bool HT.out.symm, rfl⟩
      | true =>
        rw [hn] at hch
        have HT := Lib.hid (HC.out.trans (takenF_go hp hn))
        clear hn
        go_wp2_with (first | (go_at_call 49; refine c.mono ?_; rintro e w' ⟨rfl, rfl⟩) | (go_at_call 50; refine hch.mono ?_; rintro e w' ⟨rfl, rfl⟩))
        go_round
        case rel => exact ⟨pos + wd s pos, g, by go_num, hin, by omega, HT.out⟩
        case measure => simp [Go.RowKit.intOf]; omega
    · have HT := Lib.hid (HC.out.trans (takenF_end (by omega)))
      go_wp2
      go_ret
      exact ⟨ret_bool HT.out.symm, rfl⟩
theorem escC_cases (c : UInt8) : escC c = [38, 97, 109, 112, 59] ∧ c = 38 ∨ escC c = [38, 108, 116, 59] ∧ c = 60 ∨ escC c = [38, 103, 116, 59] ∧ c = 62 ∨ escC c = [38, 113, 117, 111, 116, 59] ∧ c = 34 ∨ (escC c = [c] ∧ c ≠ 38 ∧ c ≠ 60 ∧ c ≠ 62 ∧ c ≠ 34) := by
  unfold escC
  by_cases h1 : c = 38
  · rw [if_pos h1]; exact .inl ⟨rfl, h1⟩
  · rw [if_neg h1]
    by_cases h2 : c = 60
    · rw [if_pos h2]; exact .inr (.inl ⟨rfl, h2⟩)
    · rw [if_neg h2]
      by_cases h3 : c = 62
      · rw [if_pos h3]; exact .inr (.inr (.inl ⟨rfl, h3⟩))
      · rw [if_neg h3]
        by_cases h4 : c = 34
        · rw [if_pos h4]; exact .inr (.inr (.inr (.inl ⟨rfl, h4⟩)))
        · rw [if_neg h4]; exact .inr (.inr (.inr (.inr ⟨rfl, h1, h2, h3, h4⟩)))
theorem esc_le6 (c : UInt8) : (escC c).length ≤ 6 := by
  rcases escC_cases c with ⟨h, _⟩ | ⟨h, _⟩ | ⟨h, _⟩ | ⟨h, _⟩ | ⟨h, _⟩ <;> rw [h] <;> simp
theorem rEscape_any (hz : s.size ≤ 4000000000) : Calls Tryz.prog 22 #[.string s] w fun e w' => e = .returned (.string (escB s)) ∧ Below w.heap.size w w' := by
  obtain ⟨i0, hi, hz0, hz1, hz2⟩ := info_parts binfo
  have hbt := get_bt s
  go_enter Tryz.func22, Tryz.ntmps22
  go_wp2_with fail
  go_loopg [4, 3] (s.size + 1) (fun f s4 s3 wx => ∃ (i : Nat) (l : List UInt8), s4 = .int .i64 (i : Int) ∧ f + i = s.size + 1 ∧ i ≤ s.size ∧ Br w.heap.size wx s3 l ∧ l.length ≤ 6 * i ∧ Below w.heap.size w wx ∧ s.data.toList.flatMap escC = l ++ (s.data.toList.drop i).flatMap escC)
  case atStart => exact ⟨0, [], rfl, rfl, Nat.zero_le _, Br.nil _ _, Nat.zero_le _, Below.refl _ _, by simp⟩
  case round =>
    obtain ⟨i, l, rfl, hg, hi6, hrow, hl, hB, hfl⟩ := hrel
    have HFL := Lib.hid hfl; have HL := Lib.hid (And.intro hl (And.intro hg hi6)); have HB := Lib.hid hB
    have hown : wr.ownsRow w.heap.size 5 1 _ l.length (Lib.byteCells l) := hrow
    have hbase := hB.size
    have htx := hrow.text
    obtain ⟨va, vc, hv⟩ := hrow.form
    subst hv
    have hi0 : (0 : Int) ≤ i := by omega
    by_cases hlt : i < s.size
    · have hI : (i : Int) < s.size := by omega
      have f1 : IntKind.i64.wrap ((i : Int) + 1) = (i : Int) + 1 := IntWalk.i64_in _ (by omega)
      have hdr : s.data.toList.drop i = (s.data[i]'hlt) :: s.data.toList.drop (i + 1) := by
        rw [List.drop_eq_getElem_cons (by simpa using hlt)]
        simp
      obtain ⟨c, hc⟩ : ∃ c, s.data[i]'hlt = c := ⟨_, rfl⟩
      have hbc : bt s i = (c.toNat : Int) := by rw [← hc]; exact (get_bt s i hlt).symm
      have hst : s.data.toList.flatMap escC = (l ++ escC c) ++ (s.data.toList.drop (i + 1)).flatMap escC := by
        rw [hfl, hdr, hc, List.flatMap_cons, List.append_assoc]
      have HST := Lib.hid hst; have HLT := Lib.hid hlt
      have hel := esc_le6 c
      have HEL := Lib.hid hel
      clear hst hdr hfl hg hi6 hB hrow hl hc hel htx
      rcases escC_cases c with ⟨he, rfl⟩ | ⟨he, rfl⟩ | ⟨he, rfl⟩ | ⟨he, rfl⟩ | ⟨he, h1, h2, h3, h4⟩
      · have hbv : bt s i = 38 := hbc
        rw [he] at HST HEL
        have hc6 : l.length + 5 ≤ 6 * s.size := by have := HL.out; have := HLT.out; omega
        clear hbc he
        go_wp2_with (at_builtin; refine Lib.wpList_append_own_string _ rfl _ _ 60 9 rfl w.heap.size 5 i0 Tryz.underlying60 Tryz.underlying9 hi hz0 hz1 hz2 _ _ _ rfl hown ⟨#[38, 97, 109, 112, 59]⟩ rfl ?c3 ?c4 ?c5 ?_)
        case c3 => unfold maxLen; simp [ByteArray.size]; omega
        case c4 => simp [ByteArray.size]; omega
        case c5 => exact hbase
        intro v' w2 hown' hgrow _
        have hB2 := Lib.hid (grown_below hgrow hbase (fun k hk => (World.ownsRow.lt hown k hk).1))
        have HR := Lib.hid (Br.more (s := ⟨#[38, 97, 109, 112, 59]⟩) hown')
        clear hgrow hown'
        go_wp2_with fail
        go_roundg (s.size - i)
        case rel => exact ⟨i + 1, l ++ [38, 97, 109, 112, 59], by simp, by have := HL.out; have := HLT.out; omega, HLT.out, HR.out, by have := HL.out; simp; omega, HB.out.trans hB2.out, HST.out⟩
        case measure => have := HL.out; have := HLT.out; omega
      · have hbv : bt s i = 60 := hbc
        rw [he] at HST HEL
        have hc6 : l.length + 4 ≤ 6 * s.size := by have := HL.out; have := HLT.out; omega
        clear hbc he
        go_wp2_with (at_builtin; refine Lib.wpList_append_own_string _ rfl _ _ 60 9 rfl w.heap.size 5 i0 Tryz.underlying60 Tryz.underlying9 hi hz0 hz1 hz2 _ _ _ rfl hown ⟨#[38, 108, 116, 59]⟩ rfl ?c3 ?c4 ?c5 ?_)
        case c3 => unfold maxLen; simp [ByteArray.size]; omega
        case c4 => simp [ByteArray.size]; omega
        case c5 => exact hbase
        intro v' w2 hown' hgrow _
        have hB2 := Lib.hid (grown_below hgrow hbase (fun k hk => (World.ownsRow.lt hown k hk).1))
        have HR := Lib.hid (Br.more (s := ⟨#[38, 108, 116, 59]⟩) hown')
        clear hgrow hown'
        go_wp2_with fail
        go_roundg (s.size - i)
        case rel => exact ⟨i + 1, l ++ [38, 108, 116, 59], by simp, by have := HL.out; have := HLT.out; omega, HLT.out, HR.out, by have := HL.out; simp; omega, HB.out.trans hB2.out, HST.out⟩
        case measure => have := HL.out; have := HLT.out; omega
      · have hbv : bt s i = 62 := hbc
        rw [he] at HST HEL
        have hc6 : l.length + 4 ≤ 6 * s.size := by have := HL.out; have := HLT.out; omega
        clear hbc he
        go_wp2_with (at_builtin; refine Lib.wpList_append_own_string _ rfl _ _ 60 9 rfl w.heap.size 5 i0 Tryz.underlying60 Tryz.underlying9 hi hz0 hz1 hz2 _ _ _ rfl hown ⟨#[38, 103, 116, 59]⟩ rfl ?c3 ?c4 ?c5 ?_)
        case c3 => unfold maxLen; simp [ByteArray.size]; omega
        case c4 => simp [ByteArray.size]; omega
        case c5 => exact hbase
        intro v' w2 hown' hgrow _
        have hB2 := Lib.hid (grown_below hgrow hbase (fun k hk => (World.ownsRow.lt hown k hk).1))
        have HR := Lib.hid (Br.more (s := ⟨#[38, 103, 116, 59]⟩) hown')
        clear hgrow hown'
        go_wp2_with fail
        go_roundg (s.size - i)
        case rel => exact ⟨i + 1, l ++ [38, 103, 116, 59], by simp, by have := HL.out; have := HLT.out; omega, HLT.out, HR.out, by have := HL.out; simp; omega, HB.out.trans hB2.out, HST.out⟩
        case measure => have := HL.out; have := HLT.out; omega
      · have hbv : bt s i = 34 := hbc
        rw [he] at HST HEL
        have hc6 : l.length + 6 ≤ 6 * s.size := by have := HL.out; have := HLT.out; omega
        clear hbc he
        go_wp2_with (at_builtin; refine Lib.wpList_append_own_string _ rfl _ _ 60 9 rfl w.heap.size 5 i0 Tryz.underlying60 Tryz.underlying9 hi hz0 hz1 hz2 _ _ _ rfl hown ⟨#[38, 113, 117, 111, 116, 59]⟩ rfl ?c3 ?c4 ?c5 ?_)
        case c3 => unfold maxLen; simp [ByteArray.size]; omega
        case c4 => simp [ByteArray.size]; omega
        case c5 => exact hbase
        intro v' w2 hown' hgrow _
        have hB2 := Lib.hid (grown_below hgrow hbase (fun k hk => (World.ownsRow.lt hown k hk).1))
        have HR := Lib.hid (Br.more (s := ⟨#[38, 113, 117, 111, 116, 59]⟩) hown')
        clear hgrow hown'
        go_wp2_with fail
        go_roundg (s.size - i)
        case rel => exact ⟨i + 1, l ++ [38, 113, 117, 111, 116, 59], by simp, by have := HL.out; have := HLT.out; omega, HLT.out, HR.out, by have := HL.out; simp; omega, HB.out.trans hB2.out, HST.out⟩
        case measure => have := HL.out; have := HLT.out; omega
      · have hn : ∀ k : UInt8, c ≠ k → (c.toNat : Int) ≠ (k.toNat : Int) := fun k hk h => hk (UInt8.toNat_inj.1 (by omega))
        have n1 : ¬ bt s i = 38 := by rw [hbc]; exact hn 38 h1
        have n2 : ¬ bt s i = 60 := by rw [hbc]; exact hn 60 h2
        have n3 : ¬ bt s i = 62 := by rw [hbc]; exact hn 62 h3
        have n4 : ¬ bt s i = 34 := by rw [hbc]; exact hn 34 h4
        have m1 : (bt s i == 38) = false := by simpa using n1
        have m2 : (bt s i == 60) = false := by simpa using n2
        have m3 : (bt s i == 62) = false := by simpa using n3
        have m4 : (bt s i == 34) = false := by simpa using n4
        rw [he] at HST HEL
        have hc6 : l.length + 1 ≤ 6 * s.size := by have := HL.out; have := HLT.out; omega
        have HBC := Lib.hid hbc
        clear hbc he hn h1 h2 h3 h4
        go_wp2_with (at_builtin; refine wpList_append_own _ rfl _ _ 60 rfl w.heap.size 5 i0 (.int .u8 0) 1 1 Tryz.underlying60 hi hz0 hz1 hz2 rfl (by decide) _ _ _ rfl (hown.alloc _) ⟨wr.heap.size, 0, none⟩ 1 1 [.int .u8 (bt s i)] rfl rfl ?c1 ?c2 ?c3 ?c4 ?c5 ?_)
        case c1 =>
          intro j u hj
          match j, hj with
          | 0, hj => simp at hj; subst hj; simp [Addr.add]
          | (j + 1), hj => simp at hj
        case c2 => intro u hu; simp at hu; rcases hu with rfl; rfl
        case c3 => unfold maxLen; omega
        case c4 => omega
        case c5 => simp; omega
        intro v' w2 hown' hgrow _
        have hA := (Below.refl w.heap.size wr).alloc hbase (.cells #[.int .u8 (bt s i)] 5)
        have hB2 := Lib.hid (hA.trans (grown_below hgrow (Nat.le_trans hbase hA.size) (fun k hk => (World.ownsRow.lt hown k hk).1)))
        rw [HBC.out] at hown'
        have HR := Lib.hid (Br.more1 hown')
        clear hgrow hown' hA
        go_wp2_with fail
        go_roundg (s.size - i)
        case rel => exact ⟨i + 1, l ++ [c], by simp, by have := HL.out; have := HLT.out; omega, HLT.out, HR.out, by have := HL.out; simp; omega, HB.out.trans hB2.out, HST.out⟩
        case measure => have := HL.out; have := HLT.out; omega
    · have hI : ¬ (i : Int) < s.size := by omega
      have hend : escB s = ⟨l.toArray⟩ := by
        unfold escB
        rw [hfl, List.drop_eq_nil_of_le (by simp; omega)]
        simp
      have HE := Lib.hid hend
      clear hend hfl hlt
      go_wp2_with fail
      go_ret
      rw [HE.out]
      exact ⟨rfl, HB.out⟩
end
end

section
open Go.RowKit Go.PlainAid

/-- The scan's rows. -/
structure ScR (lo : Nat) (ov pv tv : Value) (out : List Tk) (pile : List ByteArray) (text : List UInt8) (w : World) : Prop where
  out : OutAt lo w ov out
  pile : GRow StrE lo w pv pile
  text : Br lo w tv text
  lo : lo ≤ w.heap.size
section
variable {lo cb : Nat} {s : ByteArray} {p : Nat} {e a : Int} {ov pv tv c4 c5 c6 c7 : Value} {out : List Tk} {pile : List ByteArray} {text : List UInt8} {w w' w6 : World}
theorem Br.kind {v : Value} {l : List UInt8} (h : Br lo w v l) : ∀ g, v.ownBlock = some g → ∃ c, w.heap[g]? = some (.cells c 5 (0, 0)) := fun g hg => by
  rcases h.2 with ⟨rfl, _⟩ | ⟨g', cap, cur, rfl, _, hh, _⟩
  · simp [Value.ownBlock] at hg
  · simp [Value.ownBlock] at hg
    subst hg
    exact ⟨cur, hh⟩
/-- All that lies from lo on stays. -/
theorem ScR.later (h : ScR lo ov pv tv out pile text w) (hb : ∀ k, lo ≤ k → k < w.heap.size → w'.heap[k]? = w.heap[k]?) (hz : w.heap.size ≤ w'.heap.size) : ScR lo ov pv tv out pile text w' := by
  have hown := h.out.own
  refine ⟨h.out.later (fun g hg => ?_) (fun g c hg hc => hb g hg (lt_some hc)), h.pile.later (fun g hg => hb g (h.pile.own g hg) (h.pile.lt g hg)), h.text.later (fun g hg => hb g (h.text.lt g hg).1 (h.text.lt g hg).2), Nat.le_trans h.lo hz⟩
  obtain ⟨h1, c, h2⟩ := hown g hg
  exact hb g h1 (lt_some h2)
theorem ScR.on (h : ScR lo ov pv tv out pile text w) (hB : Below w.heap.size w w') : ScR lo ov pv tv out pile text w' := h.later (fun k _ hk => hB.block k hk) hB.size
theorem ScR.keep (h : ScR lo ov pv tv out pile text w) (hK : KeepX w.heap.size cb w w') (hcb : cb < lo) : ScR lo ov pv tv out pile text w' := h.later (fun k hk hk2 => hK.block k hk2 (by omega)) hK.size
theorem ScR.set (h : ScR lo ov pv tv out pile text w) (hcb : cb < lo) (i : Nat) (u : Value) : ScR lo ov pv tv out pile text (w.setCell ⟨cb, i, none⟩ u) := h.later (fun k hk _ => Below.heap_setCell _ _ _ _ (by simp; omega)) (by simp [World.setCell])
theorem ScnM.next {e' a' : Int} {q : Nat} {w1 w2 : World} (h : ScnM cb s e a c4 c5 c6 c7 w p w1) (k : ScnM cb s e' a' c4 c5 c6 c7 w1 q w2) : ScnM cb s e' a' c4 c5 c6 c7 w q w2 := ⟨k.1, h.2.trans (k.2.mono h.2.size)⟩
theorem Scn.low (h : Scn cb s p e a c4 c5 c6 c7 w) (hcb : cb < lo) (hB : Below lo w w') : Scn cb s p e a c4 c5 c6 c7 w' := (hB.block cb hcb).trans h
theorem Scn.lt (h : Scn cb s p e a c4 c5 c6 c7 w) : cb < w.heap.size := lt_some h
theorem Scn.set4 (h : Scn cb s p e a c4 c5 c6 c7 w) (u : Value) : Scn cb s p e a u c5 c6 c7 (w.setCell ⟨cb, 4, none⟩ u) := setH h 4 _
theorem Scn.set5 (h : Scn cb s p e a c4 c5 c6 c7 w) (u : Value) : Scn cb s p e a c4 u c6 c7 (w.setCell ⟨cb, 5, none⟩ u) := setH h 5 _
theorem Scn.set6 (h : Scn cb s p e a c4 c5 c6 c7 w) (u : Value) : Scn cb s p e a c4 c5 u c7 (w.setCell ⟨cb, 6, none⟩ u) := setH h 6 _
theorem Scn.set7 (h : Scn cb s p e a c4 c5 c6 c7 w) (u : Value) : Scn cb s p e a c4 c5 c6 u (w.setCell ⟨cb, 7, none⟩ u) := setH h 7 _
theorem Scn.cell4 (h : Scn cb s p e a c4 c5 c6 c7 w) : w.cell? ⟨cb, 4, none⟩ = some c4 := cellH h 4
theorem Scn.cell5 (h : Scn cb s p e a c4 c5 c6 c7 w) : w.cell? ⟨cb, 5, none⟩ = some c5 := cellH h 5
theorem Scn.cell6 (h : Scn cb s p e a c4 c5 c6 c7 w) : w.cell? ⟨cb, 6, none⟩ = some c6 := cellH h 6
theorem Scn.cell7 (h : Scn cb s p e a c4 c5 c6 c7 w) : w.cell? ⟨cb, 7, none⟩ = some c7 := cellH h 7
theorem Scn.free (h : Scn cb s p e a c4 c5 c6 c7 w) (i : Nat) : w.frozen? ⟨cb, i, none⟩ = false := freeH h i
/-- What an append of the own kind leaves. -/
theorem grown_key {v : Value} (hlo : lo ≤ w.heap.size) (hown : ∀ g, v.ownBlock = some g → lo ≤ g) (hg : w.grownBy w6 v.ownBlock) : (∀ k, k < w.heap.size → v.ownBlock ≠ some k → w6.heap[k]? = w.heap[k]?) ∧ w.heap.size ≤ w6.heap.size ∧ Below lo w w6 := by
  have key : ∀ k, k < w.heap.size → v.ownBlock ≠ some k → w6.heap[k]? = w.heap[k]? := fun k hk hn => hg.block k hk (fun e => hn e.symm)
  exact ⟨key, hg.size, ⟨hg.os, hg.tape, hg.output, hg.size, fun k hk => key k (Nat.lt_of_lt_of_le hk hlo) (fun e => by have := hown k e; omega)⟩⟩
/-- Tokens are told. -/
theorem ScR.told (h : ScR lo ov pv tv out pile text w) {ms xs : List TkM} {ts : List Tk} (h2 : ms.length = out.length) (h3 : ∀ j (h : j < ms.length) (h' : j < out.length), TkOk lo w ms[j] out[j]) (h4 : xs.length = ts.length) (h5 : ∀ j (h : j < xs.length) (h' : j < ts.length), TkOk lo w xs[j] ts[j]) {v' : Value} (hrow : GRow TkE lo w6 v' (ms ++ xs)) (hg : w.grownBy w6 ov.ownBlock) :
    ScR lo v' pv tv (out ++ ts) pile text w6 ∧ Below lo w w6 ∧ (∀ k, k < w.heap.size → ov.ownBlock ≠ some k → w6.heap[k]? = w.heap[k]?) := by
  have hown := h.out.own
  obtain ⟨key, hz, hB⟩ := grown_key h.lo (fun g hg => (hown g hg).1) hg
  have hat : ∀ g c, lo ≤ g → w.heap[g]? = some (.cells c 47 (0, 0)) → w6.heap[g]? = w.heap[g]? := fun g c hg hc => key g (lt_some hc) (fun e => by
    obtain ⟨c', hc'⟩ := (hown g e).2
    exact kinds_ne hc hc' (by decide))
  refine ⟨⟨⟨ms ++ xs, hrow, by rw [List.length_append, List.length_append, h2, h4], fun j hj hj' => ?_⟩, h.pile.later (fun g hv => key g (h.pile.lt g hv) (fun e => ?_)), h.text.later (fun g hv => key g (h.text.lt g hv).2 (fun e => ?_)), Nat.le_trans h.lo hz⟩, hB, key⟩
  · by_cases hlt : j < ms.length
    · rw [List.getElem_append_left hlt, List.getElem_append_left (by omega)]
      exact (h3 j hlt (by omega)).later hat
    · rw [List.getElem_append_right (by omega), List.getElem_append_right (by omega)]
      have e : j - ms.length = j - out.length := by omega
      simp only [e]
      rw [List.length_append] at hj hj'
      exact (h5 (j - out.length) (by omega) (by omega)).later hat
  · obtain ⟨c, hc⟩ := h.pile.kind g hv
    obtain ⟨c', hc'⟩ := (hown g e).2
    exact kinds_ne hc hc' (by decide)
  · obtain ⟨c, hc⟩ := h.text.kind g hv
    obtain ⟨c', hc'⟩ := (hown g e).2
    exact kinds_ne hc hc' (by decide)
/-- An element is opened. -/
theorem ScR.pushed (h : ScR lo ov pv tv out pile text w) {nm : ByteArray} {v' : Value} (hrow : GRow StrE lo w6 v' (pile ++ [nm])) (hg : w.grownBy w6 pv.ownBlock) :
    ScR lo ov v' tv out (pile ++ [nm]) text w6 ∧ Below lo w w6 ∧ (∀ k, k < w.heap.size → pv.ownBlock ≠ some k → w6.heap[k]? = w.heap[k]?) := by
  have hown := h.out.own
  have hpo : ∀ g, pv.ownBlock = some g → lo ≤ g ∧ ∃ c, w.heap[g]? = some (.cells c 9 (0, 0)) := fun g hv => ⟨h.pile.own g hv, h.pile.kind g hv⟩
  obtain ⟨key, hz, hB⟩ := grown_key h.lo (fun g hg => (hpo g hg).1) hg
  refine ⟨⟨h.out.later (fun g hv => ?_) (fun g c hg hc => key g (lt_some hc) (fun e => ?_)), hrow, h.text.later (fun g hv => key g (h.text.lt g hv).2 (fun e => ?_)), Nat.le_trans h.lo hz⟩, hB, key⟩
  · obtain ⟨h1, c, hc⟩ := hown g hv
    exact key g (lt_some hc) (fun e => by
      obtain ⟨c', hc'⟩ := (hpo g e).2
      exact kinds_ne hc hc' (by decide))
  · obtain ⟨c', hc'⟩ := (hpo g e).2
    exact kinds_ne hc hc' (by decide)
  · obtain ⟨c, hc⟩ := h.text.kind g hv
    obtain ⟨c', hc'⟩ := (hpo g e).2
    exact kinds_ne hc hc' (by decide)
/-- Bytes are put behind the text. -/
theorem ScR.wrote (h : ScR lo ov pv tv out pile text w) {l : List UInt8} {v' : Value} (hrow : Br lo w6 v' (text ++ l)) (hg : w.grownBy w6 tv.ownBlock) :
    ScR lo ov pv v' out pile (text ++ l) w6 ∧ Below lo w w6 := by
  have hown := h.out.own
  have hto := h.text.lt
  have hB : Below lo w w6 := ⟨hg.os, hg.tape, hg.output, hg.size, fun k hk => hg.block k (Nat.lt_of_lt_of_le hk h.lo) (fun e => by have := (hto k e.symm).1; omega)⟩
  have key : ∀ k, k < w.heap.size → tv.ownBlock ≠ some k → w6.heap[k]? = w.heap[k]? := fun k hk hn => hg.block k hk (fun e => hn e.symm)
  refine ⟨⟨h.out.later (fun g hv => ?_) (fun g c hg hc => key g (lt_some hc) (fun e => ?_)), h.pile.later (fun g hv => key g (h.pile.lt g hv) (fun e => ?_)), hrow, Nat.le_trans h.lo hg.size⟩, hB⟩
  · obtain ⟨h1, c, hc⟩ := hown g hv
    exact key g (lt_some hc) (fun e => by
      obtain ⟨c', hc'⟩ := h.text.kind g e
      exact kinds_ne hc hc' (by decide))
  · obtain ⟨c', hc'⟩ := h.text.kind g e
    exact kinds_ne hc hc' (by decide)
  · obtain ⟨c, hc⟩ := h.pile.kind g hv
    obtain ⟨c', hc'⟩ := h.text.kind g e
    exact kinds_ne hc hc' (by decide)
/-- An element is closed. -/
theorem ScR.popped {pg n pc : Nat} (h : ScR lo ov (.slice (some ⟨pg, 0, none⟩) (n + 1) pc) tv out pile text w) : ScR lo ov (.slice (some ⟨pg, 0, none⟩) n pc) tv out pile.dropLast text w := by
  have hlen : pile.length = n + 1 := by
    obtain ⟨a, c, e⟩ := h.pile.form
    injection e with _ e _
    exact e.symm
  obtain ⟨p, x, rfl⟩ : ∃ p x, pile = p ++ [x] := ⟨pile.dropLast, pile.getLast (by intro e; rw [e] at hlen; simp at hlen), (List.dropLast_concat_getLast _).symm⟩
  rw [List.length_append, List.length_singleton] at hlen
  have hn : p.length = n := by omega
  subst hn
  have hrow : GRow StrE lo w (.slice (some ⟨pg, 0, none⟩) p.length pc) p := by
    have hp := h.pile
    unfold GRow at hp ⊢
    rw [List.length_append, List.length_singleton, show StrE.cs (p ++ [x]) = StrE.cs p ++ [.string x] by simp [ETy.cs, StrE]] at hp
    exact ownsRow_pop (by rw [ETy.cs_len]) hp
  rw [List.dropLast_concat]
  exact ⟨h.out, hrow, h.text, h.lo⟩
theorem ScR.noText (h : ScR lo ov pv tv out pile text w) : ScR lo ov pv (.slice none 0 0) out pile [] w := ⟨h.out, h.pile, Br.nil _ _, h.lo⟩
end
end
end Go.Proofs.YtnmpbphnfiiafaaGreatDoor
