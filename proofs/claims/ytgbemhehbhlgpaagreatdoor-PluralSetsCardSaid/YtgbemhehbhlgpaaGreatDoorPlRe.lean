/-
  Rules for numbers, the document's answer: a relation is read as plural reads it.
-/
import Derived.Test.YtgbemhehbhlgpaaGreatDoorPlRd
import Derived.Test.YtgbemhehbhlgpaaGreatDoorPlTu
import Derived.Deep.Light
namespace Go.Proofs.YtgbemhehbhlgpaaGreatDoor
open Go.RowKit Go.PlainAid

/-- What the document's relation hands back. -/
def RelE (w : World) (s : ByteArray) (j L : Nat) (e : Ending) (w' : World) : Prop :=
  (match relR s (pos s j) ⟨#[]⟩ with
    | .bad p => ∃ o b nt fa fn fc ta tn tc q, e = .returned (.tuple #[.agg #[.int .u8 o, .int .i64 ((b : Nat) : Int), .bool nt, .slice fa fn fc, .slice ta tn tc], .string ⟨#[]⟩, .int .i64 ((q : Nat) : Int), .bool false]) ∧ q < L ∧ pos s q = p
    | .ok p r t => ∃ fv tv q, e = .returned (.tuple #[.agg #[.int .u8 r.op, .int .i64 (r.by_ : Int), .bool r.nt, fv, tv], .string t, .int .i64 ((q : Nat) : Int), .bool true]) ∧ q < L ∧ pos s q = p ∧ t.size ≤ 20000 ∧
      GRow I64E (w.heap.size + 2) w' fv (r.rs.map (·.1)) ∧ GRow I64E (w.heap.size + 2) w' tv (r.rs.map (·.2)) ∧ ∀ g, fv.ownBlock = some g → tv.ownBlock ≠ some g) ∧ Below w.heap.size w w'
theorem RW.fin {w W : World} {o : Int} {b : Nat} {nt : Bool} {fv tv : Value} {lf lt : List Nat} (h : RW w o b nt fv tv lf lt W) :
    ∃ W', (((((W.setCell ⟨w.heap.size, 0, none⟩ (.int .u8 o)).setCell ⟨w.heap.size, 1, none⟩ (.int .i64 (b : Int))).setCell ⟨w.heap.size, 2, none⟩ (.bool nt)).setCell ⟨w.heap.size, 3, none⟩ fv).setCell ⟨w.heap.size, 4, none⟩ tv) = W' ∧
      Blk W' w.heap.size #[.int .u8 o, .int .i64 (b : Int), .bool nt, fv, tv] ∧ Below w.heap.size w W' ∧ GRow I64E (w.heap.size + 2) W' fv lf ∧ GRow I64E (w.heap.size + 2) W' tv lt := by
  refine ⟨_, rfl, ((((h.res.set 0 _).set 1 _).set 2 _).set 3 _).set 4 _, ?_, ?_, ?_⟩
  · exact ((((h.bel.setCell (p := ⟨w.heap.size, 0, none⟩) (Nat.le_refl _) _).setCell (p := ⟨w.heap.size, 1, none⟩) (Nat.le_refl _) _).setCell (p := ⟨w.heap.size, 2, none⟩) (Nat.le_refl _) _).setCell (p := ⟨w.heap.size, 3, none⟩) (Nat.le_refl _) _).setCell (p := ⟨w.heap.size, 4, none⟩) (Nat.le_refl _) _
  · exact ((((h.fr.set _ _ _ (by omega)).set _ _ _ (by omega)).set _ _ _ (by omega)).set _ _ _ (by omega)).set _ _ _ (by omega)
  · exact ((((h.tr.set _ _ _ (by omega)).set _ _ _ (by omega)).set _ _ _ (by omega)).set _ _ _ (by omega)).set _ _ _ (by omega)
theorem op_parts {T : ByteArray} {o : Int} (h : opOf T = some o) : T.size = 1 ∧ bt T 0 = o ∧ ∃ c : UInt8, T = ⟨#[c]⟩ ∧ (c = 110 ∨ c = 105 ∨ c = 102 ∨ c = 116 ∨ c = 118 ∨ c = 119) := by
  unfold opOf at h
  split at h
  · rename_i hh
    obtain ⟨hz, hc⟩ := hh
    have ho := Option.some.inj h
    refine ⟨hz, ho, ?_⟩
    have hT : ∀ c : UInt8, bt T 0 = (c.toNat : Int) → T = ⟨#[c]⟩ := fun c hb => bytes_eq hz fun k hk => by
      obtain rfl : k = 0 := by omega
      rw [hb]
      rfl
    rcases hc with hc | hc | hc | hc | hc | hc
    · exact ⟨110, hT 110 hc, .inl rfl⟩
    · exact ⟨105, hT 105 hc, .inr (.inl rfl)⟩
    · exact ⟨102, hT 102 hc, .inr (.inr (.inl rfl))⟩
    · exact ⟨116, hT 116 hc, .inr (.inr (.inr (.inl rfl)))⟩
    · exact ⟨118, hT 118 hc, .inr (.inr (.inr (.inr (.inl rfl))))⟩
    · exact ⟨119, hT 119 hc, .inr (.inr (.inr (.inr (.inr rfl))))⟩
  · cases h
theorem pos_adv (s : ByteArray) (q : Nat) : pos s q + (tx s (pos s q)).size ≤ pos s (q + 1) := (tk_step (pos_in s q)).1
/-- What is left to be read of ranges, behind a token. -/
def stR (first : Bool) (s : ByteArray) (f q : Nat) (l : List (Nat × Nat)) (X : ByteArray) : Pr (List (Nat × Nat)) :=
  if first = true ∨ tx s (pos s q) = ⟨#[44]⟩ then rngF s f (pos s (q + 1)) l (if first = true then X else X ++ ⟨#[44]⟩) else .ok (pos s q) l X
theorem pos_mono (s : ByteArray) {q r : Nat} (h : q ≤ r) : pos s q ≤ pos s r := by
  induction h with
  | refl => exact Nat.le_refl _
  | step _ ih => exact Nat.le_trans ih (Nat.le_trans (Nat.le_add_right _ _) (pos_adv s _))
theorem stR_go {first : Bool} {s : ByteArray} {f q : Nat} {l : List (Nat × Nat)} {X : ByteArray} (h : first = true ∨ tx s (pos s q) = ⟨#[44]⟩) : stR first s f q l X = rngF s f (pos s (q + 1)) l (if first = true then X else X ++ ⟨#[44]⟩) := by
  unfold stR
  rw [if_pos h]
theorem stR_end {s : ByteArray} {f q : Nat} {l : List (Nat × Nat)} {X : ByteArray} (h : tx s (pos s q) ≠ ⟨#[44]⟩) : stR false s f q l X = .ok (pos s q) l X := by
  unfold stR
  rw [if_neg (fun e => e.elim (fun e => by cases e) h)]
theorem stR_two {s : ByteArray} {f q n m : Nat} {l : List (Nat × Nat)} {X : ByteArray} (h1 : numOf (tx s (pos s q)) = some n) (h2 : tx s (pos s (q + 1)) = ⟨#[46, 46]⟩) (h3 : numOf (tx s (pos s (q + 2))) = some m) :
    rngF s (f + 1) (pos s q) l X = stR false s f (q + 3) (l ++ [(n, m)]) (X ++ tx s (pos s q) ++ (⟨#[46, 46]⟩ ++ tx s (pos s (q + 2)))) := by
  have h2' : tx s (nx s (pos s q)) = ⟨#[46, 46]⟩ := h2
  have h3' : numOf (tx s (nx s (nx s (pos s q)))) = some m := h3
  unfold stR
  rw [rngF, h1]
  simp only
  rw [if_pos h2', h3']
  simp only [Bool.false_eq_true, false_or, if_false]
  rfl
theorem stR_one {s : ByteArray} {f q n : Nat} {l : List (Nat × Nat)} {X : ByteArray} (h1 : numOf (tx s (pos s q)) = some n) (h2 : tx s (pos s (q + 1)) ≠ ⟨#[46, 46]⟩) :
    rngF s (f + 1) (pos s q) l X = stR false s f (q + 1) (l ++ [(n, n)]) (X ++ tx s (pos s q)) := by
  have h2' : tx s (nx s (pos s q)) ≠ ⟨#[46, 46]⟩ := h2
  unfold stR
  rw [rngF, h1]
  simp only
  rw [if_neg h2']
  simp only [Bool.false_eq_true, false_or, if_false]
  rfl

def relOf (o : Int) (b : Nat) (nt : Bool) : Pr (List (Nat × Nat)) → Pr Rl
  | .bad p => .bad p
  | .ok p l t => .ok p ⟨o, b, nt, l⟩ t
theorem relT_of {s : ByteArray} {o : Int} {b a : Nat} {t : ByteArray} (h : isE (tx s a)) : relT s o b a t = relOf o b (decide (tx s a = ⟨#[33, 61]⟩)) (rngR s (nx s a) [] (t ++ (⟨#[32]⟩ ++ tx s a ++ ⟨#[32]⟩))) := by
  unfold relT
  rw [if_pos (show tx s a = ⟨#[61]⟩ ∨ tx s a = ⟨#[33, 61]⟩ from h)]
  cases rngR s (nx s a) [] (t ++ (⟨#[32]⟩ ++ tx s a ++ ⟨#[32]⟩)) <;> rfl

set_option maxRecDepth 100000 in
set_option maxHeartbeats 16000000 in
theorem rRel_any (s : ByteArray) (hs : s.size ≤ 4096) (L j : Nat) (hL : (tks s).length = L) (hj : j < L) (g cap : Nat) (w : World) (htk : ∀ q, q < L → ∀ W, Below w.heap.size w W → W.cell? ⟨g, q * 2, none⟩ = some (.string (tx s (pos s q)))) :
    Calls Tryz.prog 36 #[.slice (some ⟨g, 0, none⟩) L cap, .int .i64 (j : Int)] w fun e w' => RelE w s j L e w' := by
  have hA1 := (Below.refl w.heap.size w).alloc (Nat.le_refl _) (.cells #[.int .u8 0, .int .i64 0, .bool false, .slice none 0 0, .slice none 0 0] 86)
  have kr := Blk.new w #[.int .u8 0, .int .i64 0, .bool false, .slice none 0 0, .slice none 0 0] 86
  generalize hw1 : w.alloc (.cells #[.int .u8 0, .int .i64 0, .bool false, .slice none 0 0, .slice none 0 0] 86) = w1 at *
  have z1 : w1.heap.size = w.heap.size + 1 := by rw [← hw1]; simp
  have HW1 := Lib.hid hw1
  have hA2' := (Below.refl w1.heap.size w1).alloc (Nat.le_refl _) (.cells #[.int .u8 0, .int .i64 0, .bool false, .slice none 0 0, .slice none 0 0] 86)
  have hA2 := hA1.trans (hA2'.mono hA1.size)
  have kq := Blk.new w1 #[.int .u8 0, .int .i64 0, .bool false, .slice none 0 0, .slice none 0 0] 86
  have hR0 : RW w 0 0 false (.slice none 0 0) (.slice none 0 0) [] [] (w1.alloc (.cells #[.int .u8 0, .int .i64 0, .bool false, .slice none 0 0, .slice none 0 0] 86)) :=
    ⟨kr.on hA2', by rw [z1] at kq; exact kq, GRow.nil _ _ _, GRow.nil _ _ _, fun g h => (by simp [Value.ownBlock] at h), hA2, by simp [z1]⟩
  generalize hw2 : w1.alloc (.cells #[.int .u8 0, .int .i64 0, .bool false, .slice none 0 0, .slice none 0 0] 86) = w2 at *
  have HW2 := Lib.hid hw2
  have hlL : L ≤ 4097 := by go_light; have := tks_le s; omega
  have hjI : (j : Int) < L := by go_light; omega
  have hj0 : (0 : Int) ≤ j := by go_light; omega
  have c0 := htk j hj w2 hA2
  have HTK := Lib.hid htk
  obtain ⟨T, hT⟩ : ∃ T, tx s (pos s j) = T := ⟨_, rfl⟩
  rw [hT] at c0
  have HT := Lib.hid hT; have HJ := Lib.hid hj; have HS := Lib.hid hs; have HLL := Lib.hid hL; have HL2 := Lib.hid hlL
  have HM := Lib.hid (show ∀ q, q < L → (tx s (pos s q)).size ≠ 0 → q + 1 < L from fun q h1 h2 => by rw [← hL] at h1 ⊢; exact tks_more h1 h2)
  clear hA1 hA2' kr kq hw1 hw2 htk hT hj hs hL hlL
  cases ho : opOf T with
  | none =>
    have hbad : relR s (pos s j) ⟨#[]⟩ = .bad (pos s j) := by
      unfold relR
      rw [HT.out, ho]
    have hne : ∀ c : UInt8, (c = 110 ∨ c = 105 ∨ c = 102 ∨ c = 116 ∨ c = 118 ∨ c = 119) → (T.toList == [c]) = false := fun c hc => tl_no fun e => by
      have hz : T.size = 1 := by rw [e]; rfl
      have hb : bt T 0 = (c.toNat : Int) := by rw [e]; rfl
      unfold opOf at ho
      rw [if_pos ⟨hz, by rw [hb]; rcases hc with rfl | rfl | rfl | rfl | rfl | rfl <;> decide⟩] at ho
      cases ho
    have e1 := hne 110 (by decide); have e2 := hne 105 (by decide); have e3 := hne 102 (by decide); have e4 := hne 116 (by decide); have e5 := hne 118 (by decide); have e6 := hne 119 (by decide)
    have HB := Lib.hid hbad
    clear hne ho hbad
    go_enter Tryz.func36, Tryz.ntmps36
    go_upto_region 2 with fail
    rw [HW1.out, HW2.out]
    have rc := (hR0).r.cell
    have rf := (hR0).r.free
    have sc := (hR0).res.cell
    have sf := (hR0).res.free
    go_wp2_with fail
    obtain ⟨w9, hw9, kf, hB9, _, _⟩ := (hR0).fin
    rw [show ((0 : Nat) : Int) = 0 from rfl] at hw9 kf
    rw [hw9]
    have m0 := kf.cell 0; have m1 := kf.cell 1; have m2 := kf.cell 2; have m3 := kf.cell 3; have m4 := kf.cell 4
    simp at m0 m1 m2 m3 m4
    refine bodyPost_ret (v := .tuple #[.agg #[.int .u8 (0), .int .i64 ((0 : Nat) : Int), .bool (false), .slice none 0 0, .slice none 0 0], .string ⟨#[]⟩, .int .i64 ((j : Nat) : Int), .bool false]) (by go_light; simp [results, Tryz.results36, go_sem, m0, m1, m2, m3, m4]) rfl ⟨?_, hB9⟩
    rw [HB.out]
    exact ⟨_, _, _, _, _, _, _, _, _, j, rfl, HJ.out, rfl⟩
  | some o =>
    obtain ⟨hT1, hbo, c, hTc, hc⟩ := op_parts ho
    have hbT := get_bt T
    have hT0 : 0 < T.size := by go_light; omega
    have h1L : j + 1 < L := HM.out j HJ.out (by rw [HT.out]; omega)
    obtain ⟨q1, hq1⟩ : ∃ q, j + 1 = q := ⟨_, rfl⟩
    have f1 : IntKind.i64.wrap ((j : Int) + 1) = (q1 : Int) := by
      rw [show (j : Int) + 1 = (q1 : Int) by go_light; omega]
      exact IntWalk.i64_in _ (by go_light; have := HL2.out; omega)
    have HQ1 := Lib.hid hq1; have HO := Lib.hid ho; have HTC := Lib.hid hTc; have HC := Lib.hid hc; have HT1 := Lib.hid hT1
    rw [hq1] at h1L
    have H1L := Lib.hid h1L
    have hR1 := hR0.put (o' := o) (b' := 0) (nt' := false) 0 (.int .u8 o) rfl
    clear ho hT1 hTc hc h1L hq1
    go_enter Tryz.func36, Tryz.ntmps36
    go_upto_region 2 with fail
    rw [HW1.out, HW2.out]
    have rc := (hR0).r.cell
    have rf := (hR0).r.free
    have sc := (hR0).res.cell
    have sf := (hR0).res.free
    go_upto_region 3 with fail
    go_cut [46] (fun s46 wx => s46 = .bool false ∧ w2 = wx)
    case first =>
      have hTc := HTC.out
      rcases HC.out with rfl | rfl | rfl | rfl | rfl | rfl
      · have e1 := tl_yes (l := [110]) hTc
        clear hTc
        go_wp2_with fail
        go_meet
        case rel => go_light; exact ⟨rfl, rfl⟩
      · have e1 : (T.toList == [110]) = false := tl_no (fun e => by rw [hTc] at e; exact absurd e (by decide))
        have e2 := tl_yes (l := [105]) hTc
        clear hTc
        go_wp2_with fail
        go_meet
        case rel => go_light; exact ⟨rfl, rfl⟩
      · have e1 : (T.toList == [110]) = false := tl_no (fun e => by rw [hTc] at e; exact absurd e (by decide))
        have e2 : (T.toList == [105]) = false := tl_no (fun e => by rw [hTc] at e; exact absurd e (by decide))
        have e3 := tl_yes (l := [102]) hTc
        clear hTc
        go_wp2_with fail
        go_meet
        case rel => go_light; exact ⟨rfl, rfl⟩
      · have e1 : (T.toList == [110]) = false := tl_no (fun e => by rw [hTc] at e; exact absurd e (by decide))
        have e2 : (T.toList == [105]) = false := tl_no (fun e => by rw [hTc] at e; exact absurd e (by decide))
        have e3 : (T.toList == [102]) = false := tl_no (fun e => by rw [hTc] at e; exact absurd e (by decide))
        have e4 := tl_yes (l := [116]) hTc
        clear hTc
        go_wp2_with fail
        go_meet
        case rel => go_light; exact ⟨rfl, rfl⟩
      · have e1 : (T.toList == [110]) = false := tl_no (fun e => by rw [hTc] at e; exact absurd e (by decide))
        have e2 : (T.toList == [105]) = false := tl_no (fun e => by rw [hTc] at e; exact absurd e (by decide))
        have e3 : (T.toList == [102]) = false := tl_no (fun e => by rw [hTc] at e; exact absurd e (by decide))
        have e4 : (T.toList == [116]) = false := tl_no (fun e => by rw [hTc] at e; exact absurd e (by decide))
        have e5 := tl_yes (l := [118]) hTc
        clear hTc
        go_wp2_with fail
        go_meet
        case rel => go_light; exact ⟨rfl, rfl⟩
      · have e1 : (T.toList == [110]) = false := tl_no (fun e => by rw [hTc] at e; exact absurd e (by decide))
        have e2 : (T.toList == [105]) = false := tl_no (fun e => by rw [hTc] at e; exact absurd e (by decide))
        have e3 : (T.toList == [102]) = false := tl_no (fun e => by rw [hTc] at e; exact absurd e (by decide))
        have e4 : (T.toList == [116]) = false := tl_no (fun e => by rw [hTc] at e; exact absurd e (by decide))
        have e5 : (T.toList == [118]) = false := tl_no (fun e => by rw [hTc] at e; exact absurd e (by decide))
        have e6 := tl_yes (l := [119]) hTc
        clear hTc
        go_wp2_with fail
        go_meet
        case rel => go_light; exact ⟨rfl, rfl⟩
    case rest =>
      obtain ⟨rfl, rfl⟩ := hcut
      go_upto_region 8 with fail
      generalize w2.setCell ⟨w.heap.size + 1, 0, none⟩ (.int .u8 o) = w3 at *
      clear rc rf sc sf c0 hR0 hA2
      have hq1I : (q1 : Int) < L := by go_light; have := H1L.out; omega
      have hq10 : (0 : Int) ≤ q1 := by go_light; omega
      have c1 := HTK.out q1 H1L.out w3 hR1.bel
      obtain ⟨U, hU⟩ : ∃ U, tx s (pos s q1) = U := ⟨_, rfl⟩
      rw [hU] at c1
      have HU := Lib.hid hU
      clear hU
      go_upto_if 60 with fail
      go_cut [1, 10] (fun s1 s10 wx => ∃ (q b : Nat) (X : ByteArray), s1 = .int .i64 (q : Int) ∧ s10 = .string X ∧ q < L ∧ relR s (pos s j) ⟨#[]⟩ = relT s o b (pos s q) X ∧ X.size ≤ 3 * pos s q ∧ RW w o b false (.slice none 0 0) (.slice none 0 0) [] [] wx)
      case first =>
        have hadv : pos s j + 1 ≤ pos s q1 := by
          have h := pos_adv s j
          rw [HT.out, HT1.out, HQ1.out] at h
          exact h
        by_cases hx : U = ⟨#[37]⟩
        · have b37 := tl_yes (l := [37]) hx
          rw [b37]
          have h2L : q1 + 1 < L := HM.out q1 H1L.out (by rw [HU.out, hx]; decide)
          obtain ⟨q2, hq2⟩ : ∃ q, q1 + 1 = q := ⟨_, rfl⟩
          have f2 : IntKind.i64.wrap ((q1 : Int) + 1) = (q2 : Int) := by
            rw [show (q1 : Int) + 1 = (q2 : Int) by go_light; omega]
            exact IntWalk.i64_in _ (by go_light; have := HL2.out; omega)
          rw [hq2] at h2L
          have hq2I : (q2 : Int) < L := by go_light; omega
          have hq20 : (0 : Int) ≤ q2 := by go_light; omega
          have c2 := HTK.out q2 h2L w3 hR1.bel
          obtain ⟨V, hV⟩ : ∃ V, tx s (pos s q2) = V := ⟨_, rfl⟩
          rw [hV] at c2
          have hnm := rNumber_any V w3
          have e1 : nx s (pos s j) = pos s q1 := by rw [← HQ1.out]; rfl
          have e2 : nx s (pos s q1) = pos s q2 := by rw [← hq2]; rfl
          have hUx : tx s (pos s q1) = ⟨#[37]⟩ := by rw [HU.out, hx]
          cases hn : numOf V with
          | none =>
            have hbad : relR s (pos s j) ⟨#[]⟩ = .bad (pos s q2) := relR_bad e1 e2 (by rw [HT.out]; exact HO.out) hUx (by rw [hV]; exact hn)
            have HB := Lib.hid hbad
            have H2L := Lib.hid h2L
            unfold numV at hnm
            rw [hn] at hnm
            clear hbad h2L hV hn e1 e2 hUx hx hadv hq2
            go_wp2_with fail
            refine hnm.mono ?_
            rintro e w' ⟨rfl, rfl⟩
            have rc := (hR1).r.cell
            have rf := (hR1).r.free
            have sc := (hR1).res.cell
            have sf := (hR1).res.free
            go_wp2_with fail
            obtain ⟨w9, hw9, kf, hB9, _, _⟩ := (hR1).fin
            rw [show ((0 : Nat) : Int) = 0 from rfl] at hw9 kf
            rw [hw9]
            have m0 := kf.cell 0; have m1 := kf.cell 1; have m2 := kf.cell 2; have m3 := kf.cell 3; have m4 := kf.cell 4
            simp at m0 m1 m2 m3 m4
            refine bodyPost_ret (v := .tuple #[.agg #[.int .u8 (o), .int .i64 ((0 : Nat) : Int), .bool (false), .slice none 0 0, .slice none 0 0], .string ⟨#[]⟩, .int .i64 ((q2 : Nat) : Int), .bool false]) (by go_light; simp [results, Tryz.results36, go_sem, m0, m1, m2, m3, m4]) rfl ⟨?_, hB9⟩
            rw [HB.out]
            exact ⟨_, _, _, _, _, _, _, _, _, q2, rfl, H2L.out, rfl⟩
          | some n =>
            obtain ⟨hdg, hn9⟩ := numOf_val hn
            have hVz := (numOf_dig hn).1
            have h3L : q2 + 1 < L := HM.out q2 h2L (by rw [hV]; omega)
            obtain ⟨q3, hq3⟩ : ∃ q, q2 + 1 = q := ⟨_, rfl⟩
            rw [hq3] at h3L
            have f3 : IntKind.i64.wrap ((q1 : Int) + 2) = (q3 : Int) := by
              rw [show (q1 : Int) + 2 = (q3 : Int) by go_light; omega]
              exact IntWalk.i64_in _ (by go_light; have := HL2.out; omega)
            have hwd := fun W => rWord_any n (Nat.lt_trans hn9 (by decide)) W
            rw [hdg] at hwd
            have hrel : relR s (pos s j) ⟨#[]⟩ = relT s o n (pos s q3) (T ++ ⟨#[32, 37, 32]⟩ ++ V) := by
              have h := relR_by (t := ⟨#[]⟩) e1 e2 (show nx s (pos s q2) = pos s q3 by rw [← hq3]; rfl) (by rw [HT.out]; exact HO.out) hUx (by rw [hV]; exact hn)
              rw [h, HT.out, hV, nil_app, ByteArray.append_assoc]
            have hz9 : (T ++ ⟨#[32, 37, 32]⟩ ++ V).size ≤ 3 * pos s q3 := by
              have h1 := pos_adv s q1
              have h2 := pos_adv s q2
              rw [hUx, hq2] at h1
              rw [hV, hq3] at h2
              have h1 : pos s q1 + 1 ≤ pos s q2 := h1
              rw [ByteArray.size_append, ByteArray.size_append, HT1.out]
              show 1 + 3 + V.size ≤ _
              omega
            have hTs : ¬ 9223372036854775807 < T.size + 3 := by rw [HT1.out]; decide
            have hTs2 : ¬ 9223372036854775807 < T.size + 3 + V.size := by
              have := tkN_in (pos_in s q2)
              have := tx_size (pos_in s q2)
              rw [hV] at this
              have := HS.out
              have := HT1.out
              omega
            have hR2 := hR1.put (o' := o) (b' := n) (nt' := false) 1 (.int .i64 (n : Int)) rfl
            have HREL := Lib.hid hrel; have HZ9 := Lib.hid hz9; have H3L := Lib.hid h3L
            unfold numV at hnm
            rw [hn] at hnm
            clear hrel hz9 h3L h2L hV hn e1 e2 hUx hx hadv hq2 hq3 hdg hn9 hVz
            go_wp2_with fail
            refine hnm.mono ?_
            rintro e w' ⟨rfl, rfl⟩
            have rc := (hR1).r.cell
            have rf := (hR1).r.free
            have sc := (hR1).res.cell
            have sf := (hR1).res.free
            go_wp2_with fail
            generalize w3.setCell ⟨w.heap.size + 1, 1, none⟩ (.int .i64 (n : Int)) = w4 at *
            refine (hwd w4).mono ?_
            rintro e w5 ⟨rfl, hB5⟩
            go_wp2_with fail
            go_meet
            case rel => go_light; exact ⟨q3, n, _, rfl, rfl, H3L.out, HREL.out, HZ9.out, hR2.on hB5⟩
        · have b37 := tl_no (l := [37]) hx
          rw [b37]
          have e1 : nx s (pos s j) = pos s q1 := by rw [← HQ1.out]; rfl
          have hrel : relR s (pos s j) ⟨#[]⟩ = relT s o 0 (pos s q1) T := by
            unfold relR
            rw [HT.out, HO.out]
            simp only
            rw [e1, HU.out, if_neg hx, nil_app]
          have hz9 : T.size ≤ 3 * pos s q1 := by rw [HT1.out]; omega
          have HREL := Lib.hid hrel; have HZ9 := Lib.hid hz9
          clear hrel hz9 hx e1 hadv
          go_wp2_with fail
          go_meet
          case rel => go_light; exact ⟨q1, 0, T, rfl, rfl, H1L.out, HREL.out, HZ9.out, hR1⟩
      case rest =>
        obtain ⟨q, b, X, rfl, rfl, hq, hrel, hXz, hR⟩ := hcut
        have hqI : (q : Int) < L := by go_light; omega
        have hq0 : (0 : Int) ≤ q := by go_light; omega
        have cq := HTK.out q hq wc hR.bel
        obtain ⟨E, hE⟩ : ∃ E, tx s (pos s q) = E := ⟨_, rfl⟩
        rw [hE] at cq
        have HQ := Lib.hid hq; have HREL := Lib.hid hrel; have HXZ := Lib.hid hXz; have HE := Lib.hid hE
        clear hq hrel hXz hE c1 hR1 hq1I hq10 f1
        by_cases hie : isE E
        · obtain ⟨nt, hnt⟩ : ∃ nt, decide (E = ⟨#[33, 61]⟩) = nt := ⟨_, rfl⟩
          have HNT := Lib.hid hnt; have HIE := Lib.hid hie
          have hne : (E.toList == [33, 61]) = nt := by
            rw [← hnt]
            by_cases e : E = ⟨#[33, 61]⟩
            · rw [decide_eq_true e]; exact tl_yes e
            · rw [decide_eq_false e]; exact tl_no e
          have HNE := Lib.hid hne
          clear hnt hie hne
          go_upto_region 15 with fail
          go_cut [98] (fun s98 wx => s98 = .bool false ∧ wc = wx)
          case first =>
            rcases HIE.out with e | e
            · have e1 := tl_yes (l := [61]) e
              go_wp2_with fail
              go_meet
              case rel => go_light; exact ⟨rfl, rfl⟩
            · have e1 : (E.toList == [61]) = false := tl_no (fun h => by rw [e] at h; exact absurd h (by decide))
              have e2 := tl_yes (l := [33, 61]) e
              go_wp2_with fail
              go_meet
              case rel => go_light; exact ⟨rfl, rfl⟩
          case rest =>
            obtain ⟨rfl, rfl⟩ := hcut
            have hne := HNE.out
            have hEz : E.size ≤ 2 := by rcases HIE.out with e | e <;> rw [e] <;> decide
            have hE1 : 1 ≤ E.size := by rcases HIE.out with e | e <;> rw [e] <;> decide
            have hq1L : q + 1 < L := HM.out q HQ.out (by rw [HE.out]; omega)
            have hX5 : X.size ≤ 12288 := by go_light; have := HXZ.out; have := pos_in s q; have := HS.out; omega
            have z1 : ¬ 9223372036854775807 < X.size + 1 := by go_light; omega
            have z2 : ¬ 9223372036854775807 < X.size + 1 + E.size := by go_light; omega
            have z3 : ¬ 9223372036854775807 < X.size + 1 + E.size + 1 := by go_light; omega
            have hR2 := hR.put (o' := o) (b' := b) (nt' := nt) 2 (.bool nt) rfl
            have cq2 := HTK.out q HQ.out _ hR2.bel
            rw [HE.out] at cq2
            obtain ⟨Y, hY⟩ : ∃ Y, X ++ ⟨#[32]⟩ ++ E ++ ⟨#[32]⟩ = Y := ⟨_, rfl⟩
            have hYz : Y.size ≤ 3 * pos s q + 10 := by
              rw [← hY, ByteArray.size_append, ByteArray.size_append, ByteArray.size_append]
              have := HXZ.out
              show X.size + 1 + E.size + 1 ≤ _
              omega
            obtain ⟨R, hRR⟩ : ∃ R, rngR s (pos s (q + 1)) [] Y = R := ⟨_, rfl⟩
            have hfin : relR s (pos s j) ⟨#[]⟩ = relOf o b nt R := by
              rw [HREL.out, relT_of (by rw [HE.out]; exact HIE.out), HE.out, HNT.out, ← hRR, ← hY, show X ++ ⟨#[32]⟩ ++ E ++ ⟨#[32]⟩ = X ++ (⟨#[32]⟩ ++ E ++ ⟨#[32]⟩) by simp only [ByteArray.append_assoc]]
              rfl
            have hst : R = stR true s (s.size - pos s (q + 1) + 1) q [] Y := by rw [← hRR, stR_go (.inl rfl)]; rfl
            have HFIN := Lib.hid hfin; have HST := Lib.hid hst; have HYZ := Lib.hid hYz; have HQ1L := Lib.hid hq1L; have HY := Lib.hid hY
            clear hEz hE1 hX5 hq1L hY hYz hRR hfin hst
            have rc := hR.r.cell
            have rf := hR.r.free
            go_upto_region 18 with fail
            generalize wc.setCell ⟨w.heap.size + 1, 2, none⟩ (.bool nt) = w5 at *
            go_wp2_with fail
            rw [HY.out]
            go_loopg [1, 10, 13] (s.size - pos s (q + 1) + 1) (fun f s1 s10 s13 wx => ∃ (q : Nat) (l : List (Nat × Nat)) (Y : ByteArray) (first : Bool) (fv tv : Value), s1 = .int .i64 (q : Int) ∧ s10 = .string Y ∧ s13 = .bool first ∧ q < L ∧ (first = true → q + 1 < L) ∧ R = stR first s f q l Y ∧ s.size < f + pos s (q + 1) ∧ Y.size ≤ 3 * pos s q + 10 ∧ l.length ≤ q ∧ RW w o b nt fv tv (l.map (·.1)) (l.map (·.2)) wx)
            case atStart => exact ⟨q, [], Y, true, _, _, rfl, rfl, rfl, HQ.out, fun _ => HQ1L.out, HST.out, by go_light; have := pos_in s (q + 1); omega, HYZ.out, Nat.zero_le _, hR2⟩
            case round =>
              obtain ⟨q, l, Y, first, fv, tv, rfl, rfl, rfl, hq, hf1, hst, hfu, hYz, hll, hR⟩ := hrel
              obtain ⟨fa, fn, fc, rfl⟩ := hR.fr.form'
              obtain ⟨ta, tn, tc, rfl⟩ := hR.tr.form'
              have hq0 : (0 : Int) ≤ q := by go_light; omega
              have hqI : (q : Int) < L := by go_light; omega
              have cq := HTK.out q hq wr hR.bel
              have HQ := Lib.hid hq; have HLL2 := Lib.hid hll; have HYZ := Lib.hid hYz
              by_cases hent : first = true ∨ tx s (pos s q) = ⟨#[44]⟩
              · have hqL : q + 1 < L := by
                  rcases hent with h | h
                  · exact hf1 h
                  · exact HM.out q hq (by rw [h]; decide)
                rw [stR_go hent] at hst
                obtain ⟨Z, hZ⟩ : ∃ Z, (if first = true then Y else Y ++ ⟨#[44]⟩) = Z := ⟨_, rfl⟩
                rw [hZ] at hst
                obtain ⟨f, hgk⟩ : ∃ f, gk = f + 1 := ⟨gk - 1, by go_light; have := pos_in s (q + 1); omega⟩
                rw [hgk] at hst hfu
                obtain ⟨r1, hr1⟩ : ∃ r, q + 1 = r := ⟨_, rfl⟩
                rw [hr1] at hqL hst hfu
                have f1 : IntKind.i64.wrap ((q : Int) + 1) = (r1 : Int) := by
                  rw [show (q : Int) + 1 = (r1 : Int) by go_light; omega]
                  exact IntWalk.i64_in _ (by go_light; have := HL2.out; omega)
                have hr1I : (r1 : Int) < L := by go_light; omega
                have hr10 : (0 : Int) ≤ r1 := by go_light; omega
                have c1 := HTK.out r1 hqL wr hR.bel
                obtain ⟨N, hN⟩ : ∃ N, tx s (pos s r1) = N := ⟨_, rfl⟩
                rw [hN] at c1
                have hZz : Z.size ≤ 3 * pos s q + 11 := by
                  rw [← hZ]
                  split
                  · omega
                  · rw [ByteArray.size_append]
                    show Y.size + 1 ≤ _
                    omega
                have hadv : pos s q ≤ pos s r1 := by go_light; have := pos_adv s q; rw [hr1] at this; omega
                have hY1 : ¬ 9223372036854775807 < Y.size + 1 := by go_light; have := pos_in s q; have := HS.out; omega
                obtain ⟨e1, he1⟩ : ∃ e, tx s (pos s q) = e := ⟨_, rfl⟩
                rw [he1] at cq hent
                have HENT := Lib.hid hent; have HZ := Lib.hid hZ; have HST := Lib.hid hst; have HFU := Lib.hid hfu; have HR1L := Lib.hid hqL; have HN := Lib.hid hN; have HZZ := Lib.hid hZz; have HADV := Lib.hid hadv; have HGK := Lib.hid hgk; have HR1 := Lib.hid hr1
                clear hent hZ hst hfu hqL hN hZz hadv hgk hr1 hq hf1 hYz hll he1 rc rf hne
                go_upto_region 20 with fail
                go_cut [125] (fun s125 wx => s125 = .bool true ∧ wr = wx)
                case first =>
                  have hent := HENT.out
                  cases first with
                  | true =>
                    clear hent
                    go_wp2_with fail
                    go_meet
                    case rel => go_light; exact ⟨rfl, rfl⟩
                  | false =>
                    have e44 := tl_yes (l := [44]) (hent.resolve_left (by decide))
                    clear hent
                    go_wp2_with fail
                    go_meet
                    case rel => go_light; exact ⟨rfl, rfl⟩
                case rest =>
                  obtain ⟨rfl, rfl⟩ := hcut
                  go_upto_if 127 with fail
                  go_cut [10] (fun s10 wx => s10 = .string Z ∧ wr = wx)
                  case first =>
                    cases first with
                    | true =>
                      go_wp2_with fail
                      go_meet
                      case rel => go_light; exact ⟨congrArg Value.string (by rw [← HZ.out]; rfl), rfl⟩
                    | false =>
                      go_wp2_with fail
                      go_meet
                      case rel => go_light; exact ⟨congrArg Value.string (by rw [← HZ.out]; rfl), rfl⟩
                  case rest =>
                    obtain ⟨rfl, rfl⟩ := hcut
                    have hnm := rNumber_any N wr
                    cases hn : numOf N with
                    | none =>
                      have hbad : relR s (pos s j) ⟨#[]⟩ = .bad (pos s r1) := by
                        rw [HFIN.out, HST.out, rngF_none (by rw [HN.out]; exact hn)]
                        rfl
                      have HB := Lib.hid hbad
                      unfold numV at hnm
                      rw [hn] at hnm
                      clear hbad hn
                      go_wp2_with fail
                      refine hnm.mono ?_
                      rintro e w' ⟨rfl, rfl⟩
                      have rc := (hR).r.cell
                      have rf := (hR).r.free
                      have sc := (hR).res.cell
                      have sf := (hR).res.free
                      go_wp2_with fail
                      obtain ⟨w9, hw9, kf, hB9, _, _⟩ := (hR).fin
                      rw [hw9]
                      have m0 := kf.cell 0; have m1 := kf.cell 1; have m2 := kf.cell 2; have m3 := kf.cell 3; have m4 := kf.cell 4
                      simp at m0 m1 m2 m3 m4
                      refine bodyPost_ret (v := .tuple #[.agg #[.int .u8 (o), .int .i64 ((b : Nat) : Int), .bool (nt), .slice fa fn fc, .slice ta tn tc], .string ⟨#[]⟩, .int .i64 ((r1 : Nat) : Int), .bool false]) (by go_light; simp [results, Tryz.results36, go_sem, m0, m1, m2, m3, m4]) rfl ⟨?_, hB9⟩
                      rw [HB.out]
                      exact ⟨_, _, _, _, _, _, _, _, _, r1, rfl, HR1L.out, rfl⟩
                    | some n =>
                      obtain ⟨hdg, hn9⟩ := numOf_val hn
                      have hNz := (numOf_dig hn).1
                      have hn2 : numOf (tx s (pos s r1)) = some n := by rw [HN.out]; exact hn
                      have hr2L : r1 + 1 < L := HM.out r1 HR1L.out (by rw [HN.out]; omega)
                      obtain ⟨r2, hr2⟩ : ∃ r, r1 + 1 = r := ⟨_, rfl⟩
                      rw [hr2] at hr2L
                      have f2 : IntKind.i64.wrap ((r1 : Int) + 1) = (r2 : Int) := by
                        rw [show (r1 : Int) + 1 = (r2 : Int) by go_light; omega]
                        exact IntWalk.i64_in _ (by go_light; have := HL2.out; omega)
                      have hwd := fun W => rWord_any n (Nat.lt_trans hn9 (by decide)) W
                      rw [hdg] at hwd
                      have hadv1 : pos s r1 + N.size ≤ pos s r2 := by go_light; have h := pos_adv s r1; rw [HN.out, hr2] at h; exact h
                      have hp2 := pos_in s r2
                      have hZN : ¬ 9223372036854775807 < Z.size + N.size := by go_light; have := HZZ.out; have := HADV.out; have := HS.out; omega
                      have hr2I : (r2 : Int) < L := by go_light; omega
                      have hr20 : (0 : Int) ≤ r2 := by go_light; omega
                      have HN2 := Lib.hid hn2; have HR2L := Lib.hid hr2L; have HR2 := Lib.hid hr2; have HADV1 := Lib.hid hadv1; have HNZ := Lib.hid hNz; have HN9 := Lib.hid hn9
                      unfold numV at hnm
                      rw [hn] at hnm
                      clear hn hdg hn9 hNz hn2 hr2L hr2 hadv1 hp2
                      go_wp2_with fail
                      refine hnm.mono ?_
                      rintro e w' ⟨rfl, rfl⟩
                      go_wp2_with fail
                      refine (hwd wr).mono ?_
                      rintro e w5 ⟨rfl, hB5⟩
                      have hR5 := hR.on hB5
                      have c2 := HTK.out r2 HR2L.out w5 hR5.bel
                      obtain ⟨D, hD⟩ : ∃ D, tx s (pos s r2) = D := ⟨_, rfl⟩
                      rw [hD] at c2
                      have HD := Lib.hid hD
                      clear hD hwd hnm hR cq c1 hB5
                      obtain ⟨ZN, hZN2⟩ : ∃ x, Z ++ N = x := ⟨_, rfl⟩
                      have HZN := Lib.hid hZN2
                      clear hZN2
                      have hZNz : ZN.size = Z.size + N.size := by rw [← HZN.out, ByteArray.size_append]
                      go_upto_if 157 with fail
                      rw [HZN.out]
                      go_cut [1, 10, 16] (fun s1 s10 s16 wx => ∃ (q' m : Nat) (Z' : ByteArray), s1 = .int .i64 (q' : Int) ∧ s10 = .string Z' ∧ s16 = .int .i64 (m : Int) ∧ q' < L ∧ r2 ≤ q' ∧ R = stR false s f q' (l ++ [(n, m)]) Z' ∧ Z'.size ≤ 3 * pos s q' + 10 ∧ RW w o b nt (.slice fa fn fc) (.slice ta tn tc) (l.map (·.1)) (l.map (·.2)) wx)
                      case first =>
                        by_cases hx : D = ⟨#[46, 46]⟩
                        · have b46 := tl_yes (l := [46, 46]) hx
                          rw [b46]
                          have hr3L : r2 + 1 < L := HM.out r2 HR2L.out (by rw [HD.out, hx]; decide)
                          obtain ⟨r3, hr3⟩ : ∃ r, r2 + 1 = r := ⟨_, rfl⟩
                          have f3 : IntKind.i64.wrap ((r2 : Int) + 1) = (r3 : Int) := by
                            rw [show (r2 : Int) + 1 = (r3 : Int) by go_light; omega]
                            exact IntWalk.i64_in _ (by go_light; have := HL2.out; omega)
                          rw [hr3] at hr3L
                          have hr3I : (r3 : Int) < L := by go_light; omega
                          have hr30 : (0 : Int) ≤ r3 := by go_light; omega
                          have c3 := HTK.out r3 hr3L w5 hR5.bel
                          obtain ⟨M, hM⟩ : ∃ M, tx s (pos s r3) = M := ⟨_, rfl⟩
                          rw [hM] at c3
                          have hnm := rNumber_any M w5
                          have hDx : tx s (pos s (r1 + 1)) = ⟨#[46, 46]⟩ := by rw [HR2.out, HD.out, hx]
                          cases hm : numOf M with
                          | none =>
                            have hbad : relR s (pos s j) ⟨#[]⟩ = .bad (pos s r3) := by
                              rw [HFIN.out, HST.out, rngF_bad2 (q1 := pos s r2) (q2 := pos s r3) (by rw [← HR2.out]; rfl) (by rw [← hr3]; rfl) HN2.out (by rw [HD.out, hx]) (by rw [hM]; exact hm)]
                              rfl
                            have HB := Lib.hid hbad; have HR3L := Lib.hid hr3L
                            unfold numV at hnm
                            rw [hm] at hnm
                            clear hbad hm hM hr3L hr3 hDx hx hZNz
                            go_wp2_with fail
                            refine hnm.mono ?_
                            rintro e w' ⟨rfl, rfl⟩
                            have rc := (hR5).r.cell
                            have rf := (hR5).r.free
                            have sc := (hR5).res.cell
                            have sf := (hR5).res.free
                            go_wp2_with fail
                            obtain ⟨w9, hw9, kf, hB9, _, _⟩ := (hR5).fin
                            rw [hw9]
                            have m0 := kf.cell 0; have m1 := kf.cell 1; have m2 := kf.cell 2; have m3 := kf.cell 3; have m4 := kf.cell 4
                            simp at m0 m1 m2 m3 m4
                            refine bodyPost_ret (v := .tuple #[.agg #[.int .u8 (o), .int .i64 ((b : Nat) : Int), .bool (nt), .slice fa fn fc, .slice ta tn tc], .string ⟨#[]⟩, .int .i64 ((r3 : Nat) : Int), .bool false]) (by go_light; simp [results, Tryz.results36, go_sem, m0, m1, m2, m3, m4]) rfl ⟨?_, hB9⟩
                            rw [HB.out]
                            exact ⟨_, _, _, _, _, _, _, _, _, r3, rfl, HR3L.out, rfl⟩
                          | some m =>
                            obtain ⟨hdg, hm9⟩ := numOf_val hm
                            have hMz := (numOf_dig hm).1
                            have hr4L : r3 + 1 < L := HM.out r3 hr3L (by rw [hM]; omega)
                            obtain ⟨r4, hr4⟩ : ∃ r, r3 + 1 = r := ⟨_, rfl⟩
                            have f4 : IntKind.i64.wrap ((r2 : Int) + 2) = (r4 : Int) := by
                              rw [show (r2 : Int) + 2 = (r4 : Int) by go_light; omega]
                              exact IntWalk.i64_in _ (by go_light; have := HL2.out; omega)
                            rw [hr4] at hr4L
                            have hwd := fun W => rWord_any m (Nat.lt_trans hm9 (by decide)) W
                            rw [hdg] at hwd
                            have hst : R = stR false s f r4 (l ++ [(n, m)]) (ZN ++ ⟨#[46, 46]⟩ ++ M) := by
                              rw [HST.out, stR_two HN2.out hDx (by rw [show r1 + 2 = r3 by go_light; have := HR2.out; omega, hM]; exact hm), HN.out, show r1 + 2 = r3 by go_light; have := HR2.out; omega, show r1 + 3 = r4 by go_light; have := HR2.out; omega, hM, HZN.out, ByteArray.append_assoc]
                            have ha3 : pos s r2 + 2 ≤ pos s r3 := by go_light; have h := pos_adv s r2; rw [HD.out, hx, hr3] at h; exact h
                            have ha4 : pos s r3 + M.size ≤ pos s r4 := by go_light; have h := pos_adv s r3; rw [hM, hr4] at h; exact h
                            have hp4 := pos_in s r4
                            have hz1 : ¬ 9223372036854775807 < ZN.size + 2 := by go_light; have := HZZ.out; have := HADV.out; have := HADV1.out; have := HS.out; omega
                            have hz2 : ¬ 9223372036854775807 < ZN.size + 2 + M.size := by go_light; have := HZZ.out; have := HADV.out; have := HADV1.out; have := HS.out; omega
                            have hZ4 : (ZN ++ ⟨#[46, 46]⟩ ++ M).size ≤ 3 * pos s r4 + 10 := by
                              rw [ByteArray.size_append, ByteArray.size_append]
                              show ZN.size + 2 + M.size ≤ _
                              have := HZZ.out; have := HADV.out; have := HADV1.out; have := HNZ.out
                              omega
                            have HSTn := Lib.hid hst; have HZ4 := Lib.hid hZ4; have HR4L := Lib.hid hr4L; have HR24 := Lib.hid (show r2 ≤ r4 by go_light; omega)
                            unfold numV at hnm
                            rw [hm] at hnm
                            clear hst hZ4 hr4L hm hM hr3L hr3 hr4 hDx hx hZNz hdg hm9 hMz ha3 ha4 hp4
                            go_wp2_with fail
                            refine hnm.mono ?_
                            rintro e w' ⟨rfl, rfl⟩
                            go_wp2_with fail
                            refine (hwd w5).mono ?_
                            rintro e w6 ⟨rfl, hB6⟩
                            go_wp2_with fail
                            go_meet
                            case rel => go_light; exact ⟨r4, m, _, rfl, rfl, rfl, HR4L.out, HR24.out, HSTn.out, HZ4.out, hR5.on hB6⟩
                        · have b46 := tl_no (l := [46, 46]) hx
                          rw [b46]
                          have hst : R = stR false s f r2 (l ++ [(n, n)]) ZN := by
                            rw [HST.out, stR_one HN2.out (by rw [HR2.out, HD.out]; exact hx), HN.out, HR2.out, HZN.out]
                          have hZ4 : ZN.size ≤ 3 * pos s r2 + 10 := by
                            have := HZZ.out; have := HADV.out; have := HADV1.out; have := HNZ.out
                            omega
                          have HSTn := Lib.hid hst; have HZ4 := Lib.hid hZ4
                          clear hst hZ4 hx hZNz
                          go_wp2_with fail
                          go_meet
                          case rel => go_light; exact ⟨r2, n, ZN, rfl, rfl, rfl, HR2L.out, Nat.le_refl _, HSTn.out, HZ4.out, hR5⟩
                      case rest =>
                        obtain ⟨q', m, Z', rfl, rfl, rfl, hq', hrq, hst', hZ', hR'⟩ := hcut
                        have hlen : (l.map (·.1)).length ≤ 100000000 := by rw [List.length_map]; have := HLL2.out; have := HL2.out; have := HQ.out; omega
                        have hlen2 : (l.map (·.2)).length ≤ 100000000 := by rw [List.length_map]; have := HLL2.out; have := HL2.out; have := HQ.out; omega
                        have HQ2 := Lib.hid hq'; have HRQ := Lib.hid hrq; have HSTn := Lib.hid hst'; have HZ2 := Lib.hid hZ'
                        clear hq' hrq hst' hZ' hR5 c2 hZNz
                        have rc := hR'.r.cell
                        have rf := hR'.r.free
                        go_upto_region 39 with (at_builtin; go_must (refine wpList_snoc_at I64E (x := n) rfl _ _ rfl (w.heap.size + 2) (.slice fa fn fc) (l.map (·.1)) rfl (hR'.on ((Below.refl _ _).alloc (Nat.le_refl _) (.cells #[.int .i64 (n : Int)] 2))).fr 1 _ rfl (Blk.new _ _ _) hlen (Nat.le_trans hR'.ge (by simp)) ?_); intro g1 cap1 w7 hrow7 hg7 hat7; rw [List.length_map] at hrow7 ⊢; have hR7 := (hR'.on ((Below.refl _ _).alloc (Nat.le_refl _) (.cells #[.int .i64 (n : Int)] 2))).growF hrow7 hg7 hat7; have kr7 := blk_grown hg7 (hR'.on ((Below.refl _ _).alloc (Nat.le_refl _) (.cells #[.int .i64 (n : Int)] 2))).r (fun e => by go_light; have := hR'.fr.own _ e; omega); have rc7 := kr7.cell; have rf7 := kr7.free)
                        generalize w7.setCell ⟨w.heap.size + 1, 3, none⟩ (.slice (some ⟨g1, 0, none⟩) (l.length + 1) cap1) = w8 at *
                        clear rc rf rc7 rf7 kr7 hrow7 hg7 hat7
                        have rc := hR7.r.cell
                        have rf := hR7.r.free
                        go_upto_region 21 with (at_builtin; go_must (refine wpList_snoc_at I64E (x := m) rfl _ _ rfl (w.heap.size + 2) (.slice ta tn tc) (l.map (·.2)) rfl (hR7.on ((Below.refl _ _).alloc (Nat.le_refl _) (.cells #[.int .i64 (m : Int)] 2))).tr 1 _ rfl (Blk.new _ _ _) hlen2 (Nat.le_trans hR7.ge (by simp)) ?_); intro g2 cap2 w9 hrow9 hg9 hat9; rw [List.length_map] at hrow9 ⊢; have hR9 := (hR7.on ((Below.refl _ _).alloc (Nat.le_refl _) (.cells #[.int .i64 (m : Int)] 2))).growT hrow9 hg9 hat9; have kr9 := blk_grown hg9 (hR7.on ((Below.refl _ _).alloc (Nat.le_refl _) (.cells #[.int .i64 (m : Int)] 2))).r (fun e => by go_light; have := hR7.tr.own _ e; omega); have rc9 := kr9.cell; have rf9 := kr9.free)
                        generalize w9.setCell ⟨w.heap.size + 1, 4, none⟩ (.slice (some ⟨g2, 0, none⟩) (l.length + 1) cap2) = w10 at *
                        clear rc rf rc9 rf9 kr9 hrow9 hg9 hat9
                        go_wp2_with fail
                        go_roundg f
                        case rel => go_light; exact ⟨q', l ++ [(n, m)], Z', false, _, _, rfl, rfl, rfl, HQ2.out, (fun h => by cases h), HSTn.out, by go_light; have h1 := pos_adv s q'; have h2 := HFU.out; have h3 := HADV1.out; have h4 := HNZ.out; have h5 := pos_mono s HRQ.out; omega, HZ2.out, by rw [List.length_append]; have := HLL2.out; have := HRQ.out; have := HR2.out; have := HR1.out; show l.length + 1 ≤ q'; omega, by rw [List.map_append, List.map_append]; exact hR9⟩
                        case measure => go_light; have := HGK.out; omega
              · obtain rfl : first = false := by
                  cases first with
                  | true => exact absurd (.inl rfl) hent
                  | false => rfl
                have hx : tx s (pos s q) ≠ ⟨#[44]⟩ := fun e => hent (.inr e)
                rw [stR_end hx] at hst
                have hok : relR s (pos s j) ⟨#[]⟩ = .ok (pos s q) ⟨o, b, nt, l⟩ Y := by
                  rw [HFIN.out, hst]
                  rfl
                have e44 := tl_no (l := [44]) hx
                have hY20 : Y.size ≤ 20000 := by go_light; have := pos_in s q; have := HS.out; omega
                have HOK := Lib.hid hok; have HY20 := Lib.hid hY20
                clear hent hx hst hok hY20 hf1 hfu hYz hll hq rc rf hne
                have rc := (hR).r.cell
                have rf := (hR).r.free
                have sc := (hR).res.cell
                have sf := (hR).res.free
                go_wp2_with fail
                obtain ⟨w9, hw9, kf, hB9, hf9, ht9⟩ := hR.fin
                rw [hw9]
                have m0 := kf.cell 0; have m1 := kf.cell 1; have m2 := kf.cell 2; have m3 := kf.cell 3; have m4 := kf.cell 4
                simp at m0 m1 m2 m3 m4
                refine bodyPost_ret (v := .tuple #[.agg #[.int .u8 o, .int .i64 (b : Int), .bool nt, .slice fa fn fc, .slice ta tn tc], .string Y, .int .i64 (q : Int), .bool true]) (by go_light; simp [results, Tryz.results36, go_sem, m0, m1, m2, m3, m4]) rfl ⟨?_, hB9⟩
                rw [HOK.out]
                exact ⟨_, _, q, rfl, HQ.out, rfl, HY20.out, hf9, ht9, hR.ne⟩
        · have e1 := tl_no (l := [61]) (fun e => hie (.inl e))
          have e2 := tl_no (l := [33, 61]) (fun e => hie (.inr e))
          have hbad : relR s (pos s j) ⟨#[]⟩ = .bad (pos s q) := by
            rw [HREL.out]
            unfold relT
            rw [HE.out, if_neg (show ¬ (E = ⟨#[61]⟩ ∨ E = ⟨#[33, 61]⟩) from hie)]
          have HB := Lib.hid hbad
          clear hbad hie
          have rc := (hR).r.cell
          have rf := (hR).r.free
          have sc := (hR).res.cell
          have sf := (hR).res.free
          go_wp2_with fail
          obtain ⟨w9, hw9, kf, hB9, _, _⟩ := (hR).fin
          rw [hw9]
          have m0 := kf.cell 0; have m1 := kf.cell 1; have m2 := kf.cell 2; have m3 := kf.cell 3; have m4 := kf.cell 4
          simp at m0 m1 m2 m3 m4
          refine bodyPost_ret (v := .tuple #[.agg #[.int .u8 (o), .int .i64 ((b : Nat) : Int), .bool (false), .slice none 0 0, .slice none 0 0], .string ⟨#[]⟩, .int .i64 ((q : Nat) : Int), .bool false]) (by go_light; simp [results, Tryz.results36, go_sem, m0, m1, m2, m3, m4]) rfl ⟨?_, hB9⟩
          rw [HB.out]
          exact ⟨_, _, _, _, _, _, _, _, _, q, rfl, HQ.out, rfl⟩
end Go.Proofs.YtgbemhehbhlgpaaGreatDoor
