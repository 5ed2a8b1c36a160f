/-
  Rules for numbers: the walk of the scanner's number.
-/
import Derived.Test.YtgbemhehbhlgpaaGreatDoorPlN
import Derived.Lib.AtoiErrMem
import Derived.Deep.RegionWith
import Derived.Sort.Grow
namespace Go.Proofs.YtgbemhehbhlgpaaGreatDoor
open Go.RowKit Go.PlainAid

/-- What strconv reads of the library's variables. -/
def PG (w : World) : Prop := Lib.TabIs Tryz.prog w "internal/strconv.uint64pow10" .u64 Lib.pow10Tab ∧ ∃ ev, w.cell? ⟨3, 0, none⟩ = some ev ∧ (ev = .nilIface ∨ ∃ te pe, ev = .iface te pe)
theorem below_grow (w : World) (q : Nat) (os : Array Obj) : Below w.heap.size w (Go.Sort.grow (w.drewN q) os) :=
  ⟨rfl, rfl, rfl, by simp [Go.Sort.grow], fun k hk => by
    simp only [Go.Sort.grow]
    show (w.heap ++ os)[k]? = _
    rw [Array.getElem?_append, if_pos hk]⟩
/-- The text of a token. -/
def TkS (t : ByteArray) : Prop := t.size = 0 ∨ (∀ i, i < t.size → bDg (bt t i) = true) ∨ (bDg (bt t 0) = false ∧ (1 < t.size → bt t 0 ≠ 43 ∧ bt t 0 ≠ 45))
theorem tk_shape {s : ByteArray} {a : Nat} (h : a ≤ s.size) : TkS (tx s a) := by
  have hz := tx_size h
  have hin := tkN_in h
  have hb : ∀ i, i < tkN s a → bt (tx s a) i = bt s (a + i) := fun i hi => by unfold tx; exact bt_sub _ _ _ _ (by omega) hin
  unfold tkN at hz hb hin
  by_cases h0 : ¬ a < s.size ∨ bt s a = 64
  · rw [if_pos h0] at hz; exact .inl hz
  · rw [if_neg h0] at hz hb hin
    by_cases hd : bDg (bt s a) = true
    · rw [if_pos hd] at hz hb hin
      right; left
      intro i hi
      rw [hz] at hi
      rw [hb i hi]
      exact (spTo_all _ a rfl (a + i) (by omega) (by omega)).2
    · rw [if_neg hd] at hz hb hin
      right; right
      by_cases hl : bLo (bt s a) = true
      · rw [if_pos hl] at hz hb hin
        have hp : 0 < spTo bLo s a - a := by
          rw [spTo_go (by omega) hl]
          have := spTo_le (p := bLo) (s := s) (a + 1)
          omega
        rw [hb 0 hp, Nat.add_zero]
        have := of_decide_eq_true hl
        exact ⟨by simpa using hd, fun _ => by omega⟩
      · rw [if_neg hl] at hz hb hin
        by_cases h2 : a + 1 < s.size ∧ ((bt s a = 33 ∧ bt s (a + 1) = 61) ∨ (bt s a = 46 ∧ bt s (a + 1) = 46))
        · rw [if_pos h2] at hz hb hin
          rw [hb 0 (by omega), Nat.add_zero]
          exact ⟨by simpa using hd, fun _ => by rcases h2.2 with g | g <;> omega⟩
        · rw [if_neg h2] at hz hb hin
          rw [hb 0 (by omega), Nat.add_zero, hz]
          exact ⟨by simpa using hd, fun g => absurd g (by omega)⟩
theorem PG.on {w w' : World} (h : PG w) (hB : Below w.heap.size w w') : PG w' := by
  obtain ⟨h1, ev, h2, h3⟩ := h
  refine ⟨PowTab.on h1 hB, ev, ?_, h3⟩
  exact (hB.cell (p := ⟨3, 0, none⟩) (World.block_lt_of_cell? w ⟨3, 0, none⟩ h2)).trans h2
theorem parseInt_ok (t : ByteArray) (v : Int) (ht : t.size ≤ 9) (h : Lib.parseIntB 64 t.data.toList = .ok v) (w : World) :
    Calls Tryz.prog 96 #[.string t, .int .i64 10, .int .i64 64] w fun e w' => e = .returned (.tuple #[.int .i64 v, .nilIface]) ∧ Below w.heap.size w w' :=
  (Tryz.strconv_ParseInt_10_at64_ok t (by omega) v h w).mono fun e w' ⟨h1, h2⟩ => ⟨h1, by
    rcases h2 with rfl | ⟨u, rfl⟩
    · exact Below.refl _ _
    · exact Lib.bytesWorld_below _ _ _⟩
theorem parseInt_bad (t : ByteArray) (ht : t.size ≤ 9) (h : Lib.parseIntB 64 t.data.toList = .syntax) (w : World) (hP : PG w) :
    Calls Tryz.prog 96 #[.string t, .int .i64 10, .int .i64 64] w fun e w' => ∃ (te : TypeId) (x : Value), e = .returned (.tuple #[.int .i64 0, .iface te x]) ∧ Below w.heap.size w w' := by
  obtain ⟨_, ev, h2, h3⟩ := hP
  exact (Tryz.strconv_ParseInt_10_at64_syntax t (by omega) h ev w h2 h3).mono fun e w' ⟨N, h1, _, _, hB⟩ => ⟨_, _, h1, hB⟩
theorem formatInt (n : Nat) (hn : n ≤ 9223372036854775807) (w : World) (hP : PG w) :
    Calls Tryz.prog 50 #[.int .i64 (n : Int), .int .i64 10] w fun e w' => e = .returned (.string (digs n)) ∧ Below w.heap.size w w' :=
  (Tryz.strconv_FormatInt_10 (n : Int) (by omega) (by omega) w hP.1).mono fun e w' ⟨h1, k, os, h2⟩ => ⟨by rw [h1, itoa_digs], by rw [h2]; exact below_grow w k os⟩

set_option maxRecDepth 100000 in
set_option maxHeartbeats 4000000 in
theorem number_yes (b : Nat) (s t : ByteArray) (a n : Nat) (w : World) (hk : Sc w b s a t) (ha : a + t.size ≤ s.size) (hs : s.size ≤ 1000000) (hn : numOf t = some n) (hP : PG w) :
    Calls Tryz.prog 66 #[.pointer (some ⟨b, 0, none⟩)] w fun e w' => e = .returned (.tuple #[.int .i64 (n : Int), .bool true]) ∧ Sc w' b s (tkG s (a + t.size)) (tx s (tkG s (a + t.size))) ∧ Only b w w' := by
  unfold numOf at hn
  by_cases hc : 1 ≤ t.size ∧ t.size ≤ 9 ∧ (∀ i, i < t.size → bDg (bt t i) = true) ∧ ¬ (1 < t.size ∧ bt t 0 = 48)
  · rw [if_pos hc] at hn
    have hn : dval t = n := Option.some.inj hn
    obtain ⟨h1, h2, h3, h4⟩ := hc
    obtain ⟨hi, hlt⟩ := int_digs h3 h1 h2
    rw [hn] at hi hlt
    have hd : AllDig t := fun k hk => of_decide_eq_true (h3 k hk)
    have hdg : digs n = t := by rw [← hn]; exact digs_of hd (by omega) (fun g e => h4 ⟨g, e⟩)
    have hpi := fun W => parseInt_ok t n h2 hi W
    have hfi := fun W h => formatInt n (by omega) W h
    rw [hdg] at hfi
    have hnx := fun W h => next_any b s t a W h ha hs
    have h9 : ¬ (9 : Int) < t.size := by omega
    have c2 := hk.cell 2
    simp at c2
    clear hn h3 h4 hi hd hdg
    go_enter Tryz.func66, Tryz.ntmps66
    go_wp2_with fail
    refine (hpi _).mono ?_
    rintro e w1 ⟨rfl, hB1⟩
    have hk1 := hk.on hB1
    have g1 := hP.on hB1
    have c2 := hk1.cell 2
    simp at c2
    go_upto_region 4 with fail
    have hk1d : Sc w1.drew b s a t := hk1
    have g1d : PG w1.drew := g1.on (Below.refl _ _).drew
    have HO1 := Lib.hid ((Only.of (b := b) hB1).drew)
    clear hB1 hpi hP hk
    go_region_with (go_at_call 50; refine (hfi _ g1d).mono ?_; rintro e w2 ⟨rfl, hB2⟩; have hk2 := hk1d.on hB2; have c3 := hk2.cell 2; simp at c3)
    all_goals
      have hO2 := HO1.out.on hB2
      have HNX := Lib.hid (hnx _ hk2)
      clear hnx hB2 c2 hk1 hk1d g1 g1d hfi
      go_wp2_with fail
      refine HNX.out.mono ?_
      rintro e w3 ⟨rfl, hk3, hO3⟩
      go_wp2_with fail
      go_ret2
      exact ⟨rfl, hk3, hO2.trans hO3⟩
  · rw [if_neg hc] at hn
    cases hn
end Go.Proofs.YtgbemhehbhlgpaaGreatDoor
