/-
  Rules for numbers: the walk of the scanner's number where the token is none.
-/
import Derived.Test.YtgbemhehbhlgpaaGreatDoorPlM
namespace Go.Proofs.YtgbemhehbhlgpaaGreatDoor
open Go.RowKit Go.PlainAid

set_option maxRecDepth 100000 in
set_option maxHeartbeats 4000000 in
theorem number_long (b : Nat) (s t : ByteArray) (a : Nat) (w : World) (hk : Sc w b s a t) (hn : 9 < t.size) :
    Calls Tryz.prog 66 #[.pointer (some ⟨b, 0, none⟩)] w fun e w' => e = .returned (.tuple #[.int .i64 0, .bool false]) ∧ Sc w' b s a t ∧ Only b w w' := by
  have h9 : (9 : Int) < t.size := by omega
  have c2 := hk.cell 2
  simp at c2
  have HK := Lib.hid hk
  clear hk
  go_enter Tryz.func66, Tryz.ntmps66
  go_wp2_with fail
  go_ret2
  exact ⟨rfl, HK.out, Only.refl b w⟩
set_option maxRecDepth 100000 in
set_option maxHeartbeats 4000000 in
theorem number_bad (b : Nat) (s t : ByteArray) (a : Nat) (w : World) (hk : Sc w b s a t) (h2 : t.size ≤ 9) (hi : Lib.parseIntB 64 t.data.toList = .syntax) (hP : PG w) :
    Calls Tryz.prog 66 #[.pointer (some ⟨b, 0, none⟩)] w fun e w' => e = .returned (.tuple #[.int .i64 0, .bool false]) ∧ Sc w' b s a t ∧ Only b w w' := by
  have hpi := parseInt_bad t h2 hi w hP
  have h9 : ¬ (9 : Int) < t.size := by omega
  have c2 := hk.cell 2
  simp at c2
  clear hi
  go_enter Tryz.func66, Tryz.ntmps66
  go_wp2_with fail
  refine hpi.mono ?_
  rintro e w1 ⟨te, x, rfl, hB1⟩
  have hk1 := hk.on hB1
  have hO1 := Only.of (b := b) hB1
  clear hpi hk hB1 c2
  go_upto_region 4 with fail
  go_quiet (fail)
  have hk2 := hk1.bdrew nq
  have hO2 := hO1.drewN nq
  go_wp2_with fail
  go_ret2
  exact ⟨rfl, hk2, hO2⟩
set_option maxRecDepth 100000 in
set_option maxHeartbeats 4000000 in
theorem number_nought (b : Nat) (s t : ByteArray) (a : Nat) (w : World) (hk : Sc w b s a t) (h1 : 1 < t.size) (h2 : t.size ≤ 9) (h3 : ∀ i, i < t.size → bDg (bt t i) = true) (h0 : bt t 0 = 48) (hP : PG w) :
    Calls Tryz.prog 66 #[.pointer (some ⟨b, 0, none⟩)] w fun e w' => e = .returned (.tuple #[.int .i64 0, .bool false]) ∧ Sc w' b s a t ∧ Only b w w' := by
  obtain ⟨hi, hlt⟩ := int_digs h3 (by omega) h2
  have hne : digs (dval t) ≠ t := fun e => by
    have h := digs_right (neg := false) (n := dval t) (k := 0) (by rw [e]; omega) (by omega) (by omega)
    rw [e] at h
    exact (of_decide_eq_true h).2.2.2.2.1 ⟨h0, .inl h1⟩
  have hDt : (!(digs (dval t)).toList == t.toList) = true := by
    simp only [Bool.not_eq_true', beq_eq_false_iff_ne, ne_eq]
    intro g
    refine hne ?_
    apply ext_list
    rwa [Lib.toList_data, Lib.toList_data] at g
  clear hne
  generalize dval t = n at *
  have hpi := fun W => parseInt_ok t n h2 hi W
  have hfi := fun W h => formatInt n (by omega) W h
  have h9 : ¬ (9 : Int) < t.size := by omega
  have c2 := hk.cell 2
  simp at c2
  generalize digs n = D at *
  clear hi
  go_enter Tryz.func66, Tryz.ntmps66
  go_wp2_with fail
  refine (hpi _).mono ?_
  rintro e w1 ⟨rfl, hB1⟩
  have hk1 := hk.on hB1
  have g1 := hP.on hB1
  have c2 := hk1.cell 2
  simp at c2
  go_upto_region 4 with fail
  have hk1d : Sc w1.drew b s a t := hk1
  have g1d : PG w1.drew := g1.on (Below.refl _ _).drew
  have HO1 := Lib.hid ((Only.of (b := b) hB1).drew)
  clear hB1 hpi hP hk
  go_region_with (go_at_call 50; refine (hfi _ g1d).mono ?_; rintro e w2 ⟨rfl, hB2⟩; have hk2 := hk1d.on hB2; have c3 := hk2.cell 2; simp at c3)
  all_goals
    have hO2 := HO1.out.on hB2
    clear hB2 c2 hk1 hk1d g1 g1d hfi
    go_wp2_with fail
    go_ret2
    exact ⟨rfl, hk2, hO2⟩
end Go.Proofs.YtgbemhehbhlgpaaGreatDoor
