/-
  The walks of the reference's Trim and Fields.
-/
import Derived.Test.YtdihhicjaaekhaaDoorUtfW
import Derived.Test.YtdihhicjaaekhaaDoorFldP
import Derived.Test.YtdihhicjaaekhaaDoorBlk
import Derived.Lib.ItoaMem
namespace Go.Proofs.YtdihhicjaaekhaaDoor
open Go.RowKit Go.PlainAid

theorem infoFld : (Tryd.prog.info? 44).map (fun i => (i.zero, i.size, i.bytes)) = some (some (.agg #[.int .i64 0, .string ⟨#[]⟩]), 2, 24) := by kernel_rfl

/-- The cells of a row of fields. -/
def fldCs (l : List (Int × ByteArray)) : List Value := l.flatMap fun x => [Value.int .i64 x.1, Value.string x.2]
theorem fldCs_len : ∀ l : List (Int × ByteArray), (fldCs l).length = l.length * 2
  | [] => rfl
  | x :: l => by
    have ih := fldCs_len l
    unfold fldCs at ih ⊢
    rw [List.flatMap_cons, List.length_append, ih]
    simp
    omega
theorem fldCs_at : ∀ (l : List (Int × ByteArray)) (j : Nat) (hj : j < l.length), (fldCs l)[2 * j]? = some (Value.int .i64 (l[j]).1) ∧ (fldCs l)[2 * j + 1]? = some (Value.string (l[j]).2)
  | [], j, hj => absurd hj (by simp)
  | x :: l, 0, _ => ⟨rfl, rfl⟩
  | x :: l, j + 1, hj => by
    have ih := fldCs_at l j (by simp at hj; omega)
    have h : ∀ i, (fldCs (x :: l))[i + 2]? = (fldCs l)[i]? := fun i => rfl
    rw [show 2 * (j + 1) = 2 * j + 2 by omega, show 2 * j + 2 + 1 = (2 * j + 1) + 2 by omega, h, h]
    exact ih
/-- A slice of fields that a call has made (its block lies at base or behind). -/
def FldRow (base : Nat) (w : World) (v : Value) (l : List (Int × ByteArray)) : Prop := w.ownsRow base 44 2 v l.length (fldCs l)
theorem FldRow.nil (base : Nat) (w : World) : FldRow base w (.slice none 0 0) [] := World.ownsRow_nil _ _ _ _
theorem FldRow.read {base : Nat} {w : World} {v : Value} {l : List (Int × ByteArray)} (h : FldRow base w v l) :
    (l = [] ∧ v = .slice none 0 0) ∨ ∃ g cap, v = .slice (some ⟨g, 0, none⟩) l.length cap ∧ base ≤ g ∧ g < w.heap.size ∧ l.length ≤ cap ∧ cap ≤ maxLen ∧ ∀ j (hj : j < l.length), w.cell? ⟨g, 2 * j, none⟩ = some (.int .i64 (l[j]).1) ∧ w.cell? ⟨g, 2 * j + 1, none⟩ = some (.string (l[j]).2) := by
  obtain ⟨h1, h2⟩ := id h
  rcases h2 with ⟨hv, hn⟩ | ⟨g, cap, cur, hv, hg, hh, hc, hm, hs, ht⟩
  · exact .inl ⟨List.eq_nil_of_length_eq_zero hn, hv⟩
  · refine .inr ⟨g, cap, hv, hg, (Array.getElem?_eq_some_iff.1 hh).1, hc, hm, fun j hj => ?_⟩
    have h' : w.ownsRow base 44 2 (.slice (some ⟨g, 0, none⟩) l.length cap) l.length (fldCs l) := by rw [← hv]; exact h
    have hl := fldCs_len l
    have ha := fldCs_at l j hj
    refine ⟨?_, ?_⟩
    · rw [World.ownsRow.cellAt h' (2 * j) (by omega)]; exact ha.1
    · rw [World.ownsRow.cellAt h' (2 * j + 1) (by omega)]; exact ha.2
theorem FldRow.later {base : Nat} {w w' : World} {v : Value} {l : List (Int × ByteArray)} (h : FldRow base w v l) (hb : Below w.heap.size w w') : FldRow base w' v l := by
  obtain ⟨h1, h2⟩ := h
  refine ⟨h1, ?_⟩
  rcases h2 with h2 | ⟨g, cap, cur, hv, hg, hh, r⟩
  · exact .inl h2
  · exact .inr ⟨g, cap, cur, hv, hg, (hb.block g (Array.getElem?_eq_some_iff.1 hh).1).trans hh, r⟩
theorem FldRow.snoc {base : Nat} {w : World} {v : Value} {l : List (Int × ByteArray)} {x : Int × ByteArray} (h : w.ownsRow base 44 2 v (l.length + 1) (fldCs l ++ [.int .i64 x.1, .string x.2])) : FldRow base w v (l ++ [x]) := by
  unfold FldRow
  have e : fldCs (l ++ [x]) = fldCs l ++ [.int .i64 x.1, .string x.2] := by unfold fldCs; simp
  rw [e, List.length_append]
  exact h
theorem FldRow.own {base : Nat} {w : World} {v : Value} {l : List (Int × ByteArray)} (h : FldRow base w v l) : ∀ k, v.ownBlock = some k → base ≤ k := fun k hk => (World.ownsRow.lt h k hk).1

theorem wpList_snoc_fld {ops : Array Oper} {rest : List Oper} {o : Oper} {a : Act} {Q : Exit → Act → World → Prop} {W0 w : World} {B : Nat} {p : Int} {t : ByteArray} (hgd : o.guard = none) (s x : Operand)
    (ho : o.op = .call { callee := .builtin .append, args := #[s, x], argTypes := #[41, 41] })
    (base : Nat) (v : Value) (l : List (Int × ByteArray)) (hs : a.eval s = v) (hrow : FldRow base w v l) (hx : a.eval x = .slice (some ⟨w.heap.size, 0, none⟩) 1 1) (hlen : l.length ≤ 1000000000)
    (hB : Below B W0 w) (hb : B ≤ base) (hz : base ≤ w.heap.size)
    (h : ∀ v' w', FldRow base w' v' (l ++ [(p, t)]) → Below B W0 w' → wpList Tryd.prog ops Q rest (a.put o.dst v') w') : wpList Tryd.prog ops Q (o :: rest) a (w.alloc (.cells #[.int .i64 p, .string t] 44)) := by
  obtain ⟨i0, hi, hz0, hz1, hz2⟩ := info_parts infoFld
  refine wpList_append_own _ hgd s x 41 ho base 44 i0 (.agg #[.int .i64 0, .string ⟨#[]⟩]) 2 24 Tryd.underlying41 hi hz0 hz1 hz2 rfl (by decide) v l.length _ hs (World.ownsRow.alloc hrow _) ⟨w.heap.size, 0, none⟩ 1 1 [.int .i64 p, .string t] hx rfl (fun j u hu => ?_) (by simp [Value.oneCell']) (by unfold maxLen; omega) (by omega) (by simp; omega) ?_
  · rw [Lib.add_plain, (Blk.new w #[.int .i64 p, .string t] 44).cell, Nat.zero_add]
    simpa using hu
  intro v' w' hown' hgrow _
  refine h v' w' (FldRow.snoc hown') ?_
  exact (hB.alloc (by omega) (.cells #[.int .i64 p, .string t] 44)).grown hgrow (by simp; omega) (fun k hk => Nat.le_trans hb (hrow.own k hk))

set_option maxRecDepth 100000 in
set_option maxHeartbeats 1000000 in
theorem rTrim_any (s : ByteArray) (w : World) (hs : s.size ≤ 1048576) :
    Calls Tryd.prog 41 #[.string s] w fun e w' => e = .returned (.string (trimB s)) ∧ w = w' := by
  have bl := rBlank_any
  go_enter Tryd.func41, Tryd.ntmps41
  go_wp2_with fail
  go_loopg [0] s.size (fun g s0 wr => ∃ a : Nat, a + g = s.size ∧ s0 = .string (s.extract a s.size) ∧ (∀ k, k < a → bBlank (bt s k) = true) ∧ wr = w)
  case atStart => exact ⟨0, by omega, by simp, fun k hk => absurd hk (by omega), rfl⟩
  case round =>
    obtain ⟨a, ha, rfl, hal, rfl⟩ := hrel
    have hz := size_sub s a s.size (Nat.le_refl _)
    have hb0 := bt_sub s a s.size 0
    have hx1 : (s.extract a s.size).extract 1 (s.extract a s.size).size = s.extract (a + 1) s.size := by
      rw [ByteArray.extract_extract]
      congr 1
      omega
    generalize hT : s.extract a s.size = T at *
    have HAL := Lib.hid hal; clear hal
    have HZ := Lib.hid hz; have HT := Lib.hid hT
    have hd : (∃ g h, gk = g + 1 ∧ bBlank (((T[0]'h).toNat : Int)) = true ∧ bBlank (bt s a) = true) ∨ (∃ h, bBlank (((T[0]'h).toNat : Int)) = false ∧ bBlank (bt s a) = false) ∨ (T.size = 0 ∧ a = s.size) := by
      by_cases h : 0 < T.size
      · have hg : ((T[0]'h).toNat : Int) = bt s a := by rw [← Nat.add_zero a, ← hb0 (by omega) (Nat.le_refl _)]; unfold bt; rw [dif_pos h]
        cases hB : bBlank (bt s a) with
        | true => exact .inl ⟨gk - 1, h, by omega, by rw [hg]; exact hB, rfl⟩
        | false => exact .inr (.inl ⟨h, by rw [hg]; exact hB, rfl⟩)
      · exact .inr (.inr ⟨by omega, by omega⟩)
    clear hz hb0 hT
    rcases hd with ⟨g, hz1, rfl, hB, hB0⟩ | ⟨hz1, hB, hB0⟩ | ⟨hz1, hB0⟩
    case inl =>
      have hn := isEmpty_not T (by omega)
      have HB0 := Lib.hid hB0
      clear hB0
      go_wp2_with fail
      refine (bl _ _).mono ?_
      rintro e w1 ⟨rfl, rfl⟩
      go_wp2_with fail
      go_roundg g
      case rel =>
        refine ⟨a + 1, by omega, rfl, fun k hk => ?_, rfl⟩
        by_cases h : k = a
        · subst h; exact HB0.out
        · exact HAL.out k (by omega)
      case measure => omega
    case' inr.inl =>
      have hn := isEmpty_not T (by omega)
      have hnb : a < s.size → bBlank (bt s a) = false := fun _ => hB0
      have HNB := Lib.hid hnb; clear hnb
      clear hB0 hx1
      go_wp2_with fail
      refine (bl _ _).mono ?_
      rintro e w1 ⟨rfl, rfl⟩
      go_wp2_with fail
      clear hn hB
    case' inr.inr =>
      have hn := isEmpty_of T (by omega)
      have hnb : a < s.size → bBlank (bt s a) = false := fun h => by omega
      have HNB := Lib.hid hnb; clear hnb
      clear hB0 hx1
      go_wp2_with fail
      clear hn
    all_goals
      clear HZ
      have hal := HT.out
      go_loopg [0] (s.size - a) (fun g s0 wx => ∃ b : Nat, g = b - a ∧ a ≤ b ∧ b ≤ s.size ∧ s0 = .string (s.extract a b) ∧ (∀ k, b ≤ k → k < s.size → bBlank (bt s k) = true) ∧ wx = wr)
      case atStart => exact ⟨s.size, by omega, by omega, Nat.le_refl _, by rw [hal], fun k h1 h2 => by omega, rfl⟩
      case round =>
        obtain ⟨b, hg, hab, hbs, rfl, hbl, rfl⟩ := hrel
        clear hal
        have hz := size_sub s a b hbs
        have hb0 := bt_sub s a b (b - a - 1)
        have hx1 : a < b → (s.extract a b).extract 0 ((s.extract a b).size - 1) = s.extract a (b - 1) := fun h => by
          rw [ByteArray.extract_extract, size_sub s a b hbs]
          congr 1 <;> omega
        have hfin : (a < b → bBlank (bt s (b - 1)) = false) → s.extract a b = trimB s := fun h => isTrim_one ⟨a, b, hab, hbs, rfl, HAL.out, hbl, fun h' => ⟨HNB.out (by omega), h h'⟩⟩ (trimS_is s)
        generalize hU : s.extract a b = U at *
        have HBL := Lib.hid hbl; clear hbl
        have HFIN := Lib.hid hfin; clear hfin
        by_cases h : a < b
        · have hx1 := hx1 h
          have hz2 : 0 < U.size := by omega
          have hn := isEmpty_not U (by omega)
          have i1 : IntKind.i64.wrap ((U.size : Int) - 1) = ((U.size - 1 : Nat) : Int) := by rw [show ((U.size : Int) - 1) = ((U.size - 1 : Nat) : Int) by omega]; exact IntWalk.i64_in _ (by omega)
          have hlt : U.size - 1 < U.size := by omega
          have hgt : ((U[U.size - 1]'hlt).toNat : Int) = bt s (b - 1) := by
            rw [show b - 1 = a + (b - a - 1) by omega, ← hb0 (by omega) hbs, hz.symm]
            unfold bt
            rw [dif_pos hlt]
          have HZ := Lib.hid hz
          clear hb0 hz hU
          cases hB : bBlank (bt s (b - 1)) with
          | true =>
            have HB := Lib.hid hB
            go_wp2_with fail
            refine (bl _ _).mono ?_
            rintro e w1 ⟨rfl, rfl⟩
            go_wp2_with fail
            go_roundg (b - 1 - a)
            case rel =>
              refine ⟨b - 1, rfl, by omega, by omega, rfl, fun k h1 h2 => ?_, rfl⟩
              by_cases h' : k = b - 1
              · subst h'; exact HB.out
              · exact HBL.out k (by omega) h2
            case measure => omega
          | false =>
            have hfin := HFIN.out (fun _ => hB)
            have HF := Lib.hid hfin; clear hfin
            go_wp2_with fail
            refine (bl _ _).mono ?_
            rintro e w1 ⟨rfl, rfl⟩
            go_wp2_with fail
            go_ret
            exact ⟨by rw [HF.out]; rfl, rfl⟩
        · have hn := isEmpty_of U (by omega)
          have hfin := HFIN.out (fun h' => absurd h' h)
          have HF := Lib.hid hfin; clear hfin
          go_wp2_with fail
          go_ret
          exact ⟨by rw [HF.out]; rfl, rfl⟩

set_option maxRecDepth 100000 in
set_option maxHeartbeats 2000000 in
theorem rFields_any (s : ByteArray) (w : World) (hs : s.size ≤ 1048576) :
    Calls Tryd.prog 43 #[.string s] w fun e w' => ∃ v, e = .returned v ∧ FldRow w.heap.size w' v ((flds s).map (fldV s)) ∧ Below w.heap.size w w' := by
  have bl := rBlank_any
  go_enter Tryd.func43, Tryd.ntmps43
  go_wp2_with fail
  go_loopg [3, 4] s.size (fun g s3 s4 wr => ∃ i : Nat, i ≤ s.size ∧ g = s.size - i ∧ s4 = .int .i64 (i : Int) ∧ FldRow w.heap.size wr s3 ((fldC s i).map (fldV s)) ∧ (i < s.size → (fldS s i).2 ≠ none → bBlank (bt s i) = true) ∧ Below w.heap.size w wr)
  case atStart => exact ⟨0, Nat.zero_le _, rfl, rfl, FldRow.nil _ _, fun _ h => absurd rfl h, Below.refl _ _⟩
  case round =>
    obtain ⟨i, hi, hg, rfl, hr, ho, hB⟩ := hrel
    have HO := Lib.hid ho; clear ho
    have HR := Lib.hid hr
    by_cases h : i < s.size
    · have hbt : ((s[i]'h).toNat : Int) = bt s i := by unfold bt; rw [dif_pos h]
      cases hb : bBlank (bt s i) with
      | true =>
        have HBL := Lib.hid hb
        go_wp2_with fail
        refine (bl _ _).mono ?_
        rintro e w1 ⟨rfl, rfl⟩
        go_wp2_with fail
        go_roundg (s.size - (i + 1))
        case rel =>
          refine ⟨i + 1, by omega, rfl, by go_num, ?_, fun _ h' => absurd (by rw [fldS_blank HBL.out]) h', hB⟩
          have e : fldC s (i + 1) = fldC s i := fldC_none (fldS_blank HBL.out)
          rw [e]
          exact HR.out
        case measure => omega
      | false =>
        have hn : fldS s i = (fldC s i, none) := by
          cases hp : fldS s i with
          | mk l o =>
            cases o with
            | none => rw [fldC_none hp]
            | some f => have := HO.out h (by rw [hp]; simp); rw [this] at hb; cases hb
        have HN := Lib.hid hn; clear hn
        have HBL := Lib.hid hb
        go_wp2_with fail
        refine (bl _ _).mono ?_
        rintro e w1 ⟨rfl, rfl⟩
        go_wp2_with fail
        clear hb hbt
        go_loopg [5] (s.size - i) (fun g s5 wx => ∃ k : Nat, i ≤ k ∧ k ≤ s.size ∧ g = s.size - k ∧ s5 = .int .i64 (k : Int) ∧ (k = i ∨ (i < k ∧ fldS s k = (fldC s i, some i))) ∧ wx = wr)
        case atStart => exact ⟨i, Nat.le_refl _, by omega, rfl, rfl, .inl rfl, rfl⟩
        case round =>
          obtain ⟨k, hik, hks, hg2, rfl, hst, rfl⟩ := hrel
          have HST := Lib.hid hst; clear hst
          have hd : (∃ h, bBlank (bt s k) = false ∧ ((s[k]'h).toNat : Int) = bt s k) ∨ (i < k ∧ ∃ h, bBlank (bt s k) = true ∧ ((s[k]'h).toNat : Int) = bt s k) ∨ (i < k ∧ k = s.size) := by
            by_cases hk : k < s.size
            · have hbt : ((s[k]'hk).toNat : Int) = bt s k := by unfold bt; rw [dif_pos hk]
              cases hb : bBlank (bt s k) with
              | false => exact .inl ⟨hk, rfl, hbt⟩
              | true =>
                refine .inr (.inl ⟨?_, hk, rfl, hbt⟩)
                rcases HST.out with rfl | ⟨h, _⟩
                · have := HBL.out; rw [this] at hb; cases hb
                · exact h
            · exact .inr (.inr ⟨by omega, by omega⟩)
          rcases hd with ⟨hk, hb, hbt⟩ | ⟨hik2, hk, hb, hbt⟩ | ⟨hik2, hk⟩
          case inl =>
            have HB2 := Lib.hid hb
            go_wp2_with fail
            refine (bl _ _).mono ?_
            rintro e w1 ⟨rfl, rfl⟩
            go_wp2_with fail
            go_roundg (s.size - (k + 1))
            case rel =>
              refine ⟨k + 1, by omega, by omega, rfl, by go_num, .inr ⟨by omega, ?_⟩, rfl⟩
              rw [fldS_non HB2.out]
              rcases HST.out with rfl | ⟨_, h⟩
              · rw [HN.out]; rfl
              · rw [h]; rfl
            case measure => omega
          case' inr.inl =>
            go_wp2_with fail
            refine (bl _ _).mono ?_
            rintro e w1 ⟨rfl, rfl⟩
            have hlen : ((fldC s i).map (fldV s)).length ≤ 1000000000 := by
              have h1 := (fldS_flds (s := s) (i := i) hi).length_le
              have h2 := flds_len s
              have h3 : fldC s i = (fldS s i).1 := by rw [HN.out]
              rw [List.length_map, h3]
              omega
            have hB0 := hB.size
          case' inr.inr =>
            have hk2 : ¬ k < s.size := by omega
            have HK := Lib.hid hk; clear hk
            have hlen : ((fldC s i).map (fldV s)).length ≤ 1000000000 := by
              have h1 := (fldS_flds (s := s) (i := i) hi).length_le
              have h2 := flds_len s
              have h3 : fldC s i = (fldS s i).1 := by rw [HN.out]
              rw [List.length_map, h3]
              omega
            have hB0 := hB.size
          all_goals
            have hn2 : fldS s k = (fldC s i, some i) := by
              rcases HST.out with h' | ⟨_, h'⟩
              · omega
              · exact h'
            have HN2 := Lib.hid hn2; clear hn2
            generalize hM : (fldC s i).map (fldV s) = M at *
            have HM := Lib.hid hM; clear hM
            go_wp2_with (at_builtin; go_must (refine wpList_snoc_fld rfl _ _ rfl w.heap.size _ _ rfl HR.out rfl hlen hB (Nat.le_refl _) hB0 ?_); intro v' w2 hrow2 hB2)
            go_roundg (s.size - k)
            case rel =>
              refine ⟨k, hks, rfl, rfl, ?_, fun h1 _ => ?_, hB2⟩
              · rw [fldC_some HN2.out, List.map_append, HM.out]
                exact hrow2
              · first
                | exact hb
                | (exfalso; have := HK.out; omega)
            case measure => omega
    · have he : i = s.size := by omega
      have HE := Lib.hid he; clear he
      go_wp2_with fail
      go_ret
      refine ⟨u3, rfl, ?_, hB⟩
      unfold flds
      rw [← HE.out]
      exact HR.out
end Go.Proofs.YtdihhicjaaekhaaDoor
