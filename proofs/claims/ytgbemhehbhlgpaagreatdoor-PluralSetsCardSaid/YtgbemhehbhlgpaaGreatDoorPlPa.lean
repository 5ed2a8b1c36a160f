/-
  Rules for numbers: the walk of Parse.
-/
import Derived.Test.YtgbemhehbhlgpaaGreatDoorPlZ
import Derived.Deep.RegionHeldLaw
namespace Go.Proofs.YtgbemhehbhlgpaaGreatDoor
open Go.RowKit Go.PlainAid

theorem bytes_ne {X : ByteArray} (h : X.size ≠ 0) : (X.toList == ([] : List UInt8)) = false := tl_no (fun e => h (by rw [e]; rfl))
theorem bytes_nil {X : ByteArray} (h : X.size = 0) : (X.toList == ([] : List UInt8)) = true := tl_yes (ByteArray.ext (Array.eq_empty_of_size_eq_zero h))
theorem jointT_none {t j : ByteArray} (h : t.size = 0) : jointT t j = t := by unfold jointT; rw [if_neg (by omega)]

set_option maxRecDepth 100000 in
set_option maxHeartbeats 2000000 in
theorem parse_long (s : ByteArray) (w : World) (h : 4096 < s.size) :
    Calls Tryz.prog 25 #[.string s] w fun e w' => e = .returned (.tuple #[.pointer none, .agg #[.int .i64 3, .int .i64 0]]) ∧ Below w.heap.size w w' := by
  have hI : (4096 : Int) < s.size := by omega
  have hB0 := (Below.refl w.heap.size w).alloc (Nat.le_refl _) (.cells #[.int .i64 3, .int .i64 0] 53)
  go_enter Tryz.func25, Tryz.ntmps25
  go_wp2_with fail
  refine bodyPost_ret (v := .tuple #[.pointer none, .agg #[.int .i64 3, .int .i64 0]]) (by simp [results, Tryz.results25, go_sem]) rfl ⟨rfl, ?_⟩
  exact hB0

set_option maxRecDepth 100000 in
set_option maxHeartbeats 3000000 in
theorem parse_any (s : ByteArray) (w : World) (hs : s.size ≤ 4096) (hP : PG w) :
    Calls Tryz.prog 25 #[.string s] w fun e w' => ParseEnd w s e w' := by
  have hI : ¬ (4096 : Int) < s.size := by omega
  have hB1 := (Below.refl w.heap.size w).alloc (Nat.le_refl _) (.cells #[.int .i64 0, .int .i64 0] 53)
  have q1 := BTnew w #[.int .i64 0, .int .i64 0] 53
  generalize hw1 : w.alloc (.cells #[.int .i64 0, .int .i64 0] 53) = w1 at *
  have z1 : w1.heap.size = w.heap.size + 1 := by rw [← hw1]; simp
  have HW1 := Lib.hid hw1
  have hB2 := hB1.alloc hB1.size (.cells #[.string s, .int .i64 0, .string ⟨#[]⟩] 91)
  have k2 := Blk.new w1 #[.string s, .int .i64 0, .string ⟨#[]⟩] 91
  have q2 := (KP.of (sb := w.heap.size + 1) (bb := w.heap.size + 1 + 1) ((Below.refl w1.heap.size w1).alloc (Nat.le_refl _) (.cells #[.string s, .int .i64 0, .string ⟨#[]⟩] 91))) _ _ q1 (by omega) (by omega) (fun c fz e => absurd (show 53 = 5 by injection e) (by decide))
  generalize hw2 : w1.alloc (.cells #[.string s, .int .i64 0, .string ⟨#[]⟩] 91) = w2 at *
  have z2 : w2.heap.size = w.heap.size + 2 := by rw [← hw2]; simp [z1]
  have HW2 := Lib.hid hw2
  have hbd : IsBld w2.heap.size w2.heap.size (tc ⟨#[]⟩) (w2.alloc (.cells #[.pointer none, .slice none 0 0] 95)) := Lib.fresh_isBuilder _ _ w2
  have hA3 := (Below.refl w2.heap.size w2).alloc (Nat.le_refl _) (.cells #[.pointer none, .slice none 0 0] 95)
  have hB3 := hB2.trans (hA3.mono hB2.size)
  have k3 := k2.on hA3
  have q3 := (KP.of (sb := w.heap.size + 1) (bb := w.heap.size + 1 + 1) hA3) _ _ q2 (by omega) (by omega) (fun c fz e => absurd (show 53 = 5 by injection e) (by decide))
  generalize hw3 : w2.alloc (.cells #[.pointer none, .slice none 0 0] 95) = w3 at *
  have z3 : w3.heap.size = w.heap.size + 3 := by rw [← hw3]; simp [z2]
  have HW3 := Lib.hid hw3
  have hA4 := (Below.refl w3.heap.size w3).alloc (Nat.le_refl _) (.cells #[.slice none 0 0] 96)
  have hB4 := hB3.trans (hA4.mono hB3.size)
  have k4 := k3.on hA4
  have hbd4 := bld_on hbd hA4
  have q4 := (KP.of (sb := w.heap.size + 1) (bb := w.heap.size + 1 + 1) hA4) _ _ q3 (by omega) (by omega) (fun c fz e => absurd (show 53 = 5 by injection e) (by decide))
  have a4 := BTnew w3 #[.slice none 0 0] 96
  generalize hw4 : w3.alloc (.cells #[.slice none 0 0] 96) = w4 at *
  have z4 : w4.heap.size = w.heap.size + 4 := by rw [← hw4]; simp [z3]
  have HW4 := Lib.hid hw4
  rw [z1] at k4
  rw [z2] at hbd4
  rw [z3] at a4
  have hn4 := next_any (w.heap.size + 1) s ⟨#[]⟩ 0 w4 k4 (by show 0 + 0 ≤ _; omega) (by omega)
  have he0 : (0 + (⟨#[]⟩ : ByteArray).size) = 0 := rfl
  rw [he0] at hn4
  clear hw1 hw2 hw3 hw4 he0 k2 k3 hbd q1 q2 q3 hA3 hA4 hB1 hB2 hB3
  go_enter Tryz.func25, Tryz.ntmps25
  go_wp2_with fail
  rw [HW1.out, HW2.out, HW3.out, HW4.out]
  refine hn4.mono ?_
  rintro e w5 ⟨rfl, hk5, hO5⟩
  have hz5 := hO5.size
  have hR5 : RS w w5 (w.heap.size + 1) (w.heap.size + 1 + 1) s (tkG s 0) ⟨#[]⟩ [] (.slice none 0 0) [] w5 :=
    ⟨hk5, bld_kept hbd4 (fun k hk hl => hO5.block k hl (by omega)), hB4.trans (hO5.below (Nat.le_succ _) hB4.size), KP.refl _ _ _, fun x hx => absurd hx (by simp), GRow.nil _ _ _, hP, by omega, by omega, by omega, Nat.le_refl _, spTo_in (Nat.zero_le _), hs⟩
  have hL5 : LP w s (tkG s 0) ⟨#[]⟩ [] (.slice none 0 0) [] w5.heap.size w5 :=
    ⟨hR5, ⟨(hO5.block _ (by omega) (by omega)).trans a4, GRow.nil _ _ _, rfl, by omega, Nat.le_refl _, by omega, fun i hi => absurd hi (by simp), fun i hi => absurd hi (by simp)⟩, (hO5.block _ (by omega) (by omega)).trans q4, Nat.zero_le _, Nat.zero_le _, fun r hr => absurd hr (by simp)⟩
  have hsp5 : Blk w5 w.heap.size #[.int .i64 0, .int .i64 0] := ⟨_, hL5.sp⟩
  have p0 := hsp5.cell 0; have p1 := hsp5.cell 1; have pf0 := hsp5.free 0; have pf1 := hsp5.free 1
  simp at p0 p1
  have c2 := hR5.sc.cell 2
  simp at c2
  have hwz : w.heap.size < w5.heap.size := by omega
  clear hn4 hk5 hO5 hbd4 hB4 q4 a4 k4 z1 z2 z3 z4
  by_cases h0 : (tx s (tkG s 0)).size = 0
  · have hb0 := bytes_nil h0
    have hru : ruleP s = .ok (tkG s 0) [[]] ⟨#[]⟩ := by unfold ruleP; rw [if_pos h0]
    have HRU := Lib.hid hru
    clear h0 hru
    have hBe := hR5.bel
    clear hL5 hR5
    go_wp2_with fail
    have hA := ((hBe.setCell (p := ⟨w.heap.size, 0, none⟩) (Nat.le_refl _) (.int .i64 0)).setCell (p := ⟨w.heap.size, 1, none⟩) (Nat.le_refl _) (.int .i64 0)).alloc (by simp; omega) (.cells #[.string ⟨#[]⟩, .func (.func 38) #[] #[]] 76)
    have hk : Blk (((w5.setCell ⟨w.heap.size, 0, none⟩ (.int .i64 0)).setCell ⟨w.heap.size, 1, none⟩ (.int .i64 0)).alloc (.cells #[.string ⟨#[]⟩, .func (.func 38) #[] #[]] 76)) w5.heap.size #[.string ⟨#[]⟩, .func (.func 38) #[] #[]] := Blk.new' _ _ _ _ (by simp)
    have q := ((hsp5.set 0 (.int .i64 0)).set 1 (.int .i64 0)).alloc (.cells #[.string ⟨#[]⟩, .func (.func 38) #[] #[]] 76)
    have r0 := q.cell 0
    have r1 := q.cell 1
    simp at r0 r1
    refine bodyPost_ret (v := .tuple #[.pointer (some ⟨w5.heap.size, 0, none⟩), .agg #[.int .i64 0, .int .i64 0]]) (by simp [results, Tryz.results25, go_sem, r0, r1]) rfl ⟨?_, hA⟩
    rw [HRU.out]
    exact ⟨_, rfl, _, _, rfl, Nat.le_of_lt hwz, hk, _, _, rfl, enters_of Tryz.func38 (by kernel_rfl) rfl, fun W neg ds k _ _ _ => n0_any ds k W⟩
  · have hb0 := bytes_ne h0
    have hru : ruleP s = ruleF s (s.size + 1) (tkG s 0) [] ⟨#[]⟩ orB := by unfold ruleP; rw [if_neg h0]
    have HRU := Lib.hid hru
    have HL := Lib.hid hL5
    have ha0 := hR5.ain
    clear h0 hru hL5 hR5 hsp5
    go_wp2_with fail
    go_loopg [7] (s.size + 1 - tkG s 0) (fun g s7 wr => ∃ (j : ByteArray) (a : Nat) (t : ByteArray) (rows : List (List Rl)) (av : Value) (xs : List (Option Addr × Nat × Nat)) (base f : Nat), s7 = .string j ∧ LP w s a t rows av xs base wr ∧ ((isJ j ∧ g + a = s.size + 1 ∧ ruleP s = ruleF s f a rows t j ∧ s.size < f + a ∧ (jointT t j).size ≤ 3 * a ∧ (j = andB → rows ≠ [])) ∨ (j = ⟨#[]⟩ ∧ g = 0 ∧ ruleP s = .ok a rows t)))
    case atStart => exact ⟨orB, tkG s 0, ⟨#[]⟩, [], _, [], _, s.size + 1, rfl, HL.out, .inl ⟨.inr rfl, by omega, HRU.out, by omega, Nat.zero_le _, fun e => absurd e (by decide)⟩⟩
    case round =>
      obtain ⟨j, a, t, rows, av, xs, base, f, rfl, hL, hj⟩ := hrel
      clear c2 p0 p1 pf0 pf1 hb0
      rcases hj with ⟨hj, hg, hru, hf, hjz, hne⟩ | ⟨rfl, hg, hru⟩
      · have hbl : Calls Tryz.prog 39 #[.pointer (some ⟨w.heap.size + 1 + 1, 0, none⟩)] wr fun e w' => e = .returned (.int .i64 t.size) ∧ wr = w' := by
          have h := Tryz.Builder_Len (w.heap.size + 1 + 1) (w.heap.size + 1 + 1) (tc t) wr hL.rs.bld
          rw [tc_length] at h
          exact h.mono fun e w' h => ⟨h.1, h.2.symm⟩
        have hjs := joint_low hj
        have hjn := bytes_ne (X := j) (by omega)
        have HJ := Lib.hid hj; have HG := Lib.hid hg; have HRU2 := Lib.hid hru; have HF := Lib.hid hf; have HNE := Lib.hid hne
        obtain ⟨hj1, _⟩ := hjs
        have hj3 : j.size ≤ 3 := by rcases hj with rfl | rfl <;> decide
        have htz := hL.z1
        have has := hL.rs.ain
        clear hj hg hru hf hne
        go_wp2_with fail
        refine hbl.mono ?_
        rintro e w' ⟨rfl, rfl⟩
        go_upto_if 30 with fail
        have hcz1 : ¬ 9223372036854775807 < 1 + j.size := by omega
        have hcz2 : ¬ 9223372036854775807 < 1 + j.size + 1 := by omega
        go_cut [7] (fun s7 wx => s7 = .string j ∧ LP w s a (jointT t j) rows av xs base wx)
        case first =>
          rcases Nat.eq_zero_or_pos t.size with ht | ht
          · have hLn : LP w s a (jointT t j) rows av xs base wr := by rw [jointT_none ht]; exact hL
            rw [show decide (0 < t.size) = false from decide_eq_false (by omega)]
            go_wp2_with fail
            go_meet
            case rel => exact ⟨rfl, hLn⟩
          · have hjp := jointT_pos (j := j) ht
            have hwz : t.size + ((⟨#[32]⟩ : ByteArray) ++ j ++ ⟨#[32]⟩).size ≤ 100000000 := by rw [bl_app]; have := hL.rs.sin; omega
            have hw := hL.rs.write _ hwz
            rw [← hjp] at hw
            have HJP := Lib.hid hjp
            clear hjp hwz
            rw [show decide (0 < t.size) = true from decide_eq_true ht]
            go_wp2_with fail
            refine hw.mono ?_
            rintro e w2 ⟨rfl, hR2⟩
            go_wp2_with fail
            go_meet
            case rel => exact ⟨rfl, hL.kp hR2 hR2.kp hR2.o5 hjz (Nat.le_refl _)⟩
        case rest =>
          obtain ⟨rfl, hL2⟩ := hcut
          have hrel := relation_any w _ _ s a (jointT t j) wc hL2.rs hjz
          have hsz2 := hL2.rs.o3
          obtain ⟨f, rfl⟩ : ∃ f', f = f' + 1 := ⟨f - 1, by have := HF.out; omega⟩
          clear hL hbl hcz1 hcz2 htz
          cases hRR : relR s a (jointT t j) with
          | bad p =>
            rw [hRR] at hrel
            have hbad : ruleP s = .bad p := by rw [HRU2.out, ruleF, hRR]
            have HB := Lib.hid hbad
            clear hRR hbad
            go_wp2_with fail
            refine hrel.mono ?_
            rintro e w3 hE
            rcases hE with ⟨p', e1, rfl, hk3, hB3, hK3⟩ | ⟨_, _, _, _, e1, _⟩
            · injection e1 with e1
              subst e1
              have c1 := hk3.cell 1
              have hsp3 : Blk w3 w.heap.size #[.int .i64 0, .int .i64 0] := ⟨_, hK3 _ _ hL2.sp (by omega) (by omega) (fun c fz e => absurd (show 53 = 5 by injection e) (by decide))⟩
              have p0 := hsp3.cell 0; have p1 := hsp3.cell 1; have pf0 := hsp3.free 0; have pf1 := hsp3.free 1
              simp at c1 p0 p1
              have hq := ((hsp3.set 0 (.int .i64 250)).set 1 (.int .i64 p)).drew
              have hBE := ((hB3.setCell (p := ⟨w.heap.size, 0, none⟩) (Nat.le_refl _) (.int .i64 250)).setCell (p := ⟨w.heap.size, 1, none⟩) (Nat.le_refl _) (.int .i64 p)).drew
              clear hrel hL2 hK3 hB3 hk3
              go_wp2_with fail
              go_region
              go_wp2_with fail
              have r0 := hq.cell 0
              have r1 := hq.cell 1
              simp at r0 r1
              refine bodyPost_ret (v := .tuple #[.pointer none, .agg #[.int .i64 250, .int .i64 p]]) (by simp [results, Tryz.results25, go_sem, r0, r1]) rfl ⟨?_, hBE⟩
              rw [HB.out]
            · cases e1
          | ok p r t' =>
            rw [hRR] at hrel
            obtain ⟨hap, hps, htp⟩ := relR_size hRR has hjz
            have hgo : ruleP s = goOn s f p (stp rows (j, r)) t' := by rw [HRU2.out, ruleF_go hRR]
            have HGO := Lib.hid hgo
            clear hRR hgo
            go_wp2_with fail
            refine hrel.mono ?_
            rintro e w3 hE
            rcases hE with ⟨p', e1, _⟩ | ⟨p', r', t1, fv, e1, rfl, hk3, hbd3, hB3, hK3, hz3, hA3⟩
            · cases e1
            injection e1 with e1 e2 e3
            subst e1 e2 e3
            obtain ⟨g1, lb1, rfl, hgA⟩ := id hA3
            have hR3 : RS w w3 (w.heap.size + 1) (w.heap.size + 1 + 1) s p t' [] (.slice none 0 0) [] w3 :=
              ⟨hk3, hbd3, hB3, KP.refl _ _ _, fun x hx => absurd hx (by simp), GRow.nil _ _ _, hP, by omega, by omega, by have := hL2.rs.o3; omega, Nat.le_refl _, hps, hs⟩
            have hL3 := hL2.kp hR3 hK3 hz3 htp (by omega)
            have hA3 : Asks (w.heap.size + 1 + 1 + 1 + 1) w3 (TsV (g1, lb1)) (fun ds k => rlH ds k r) := by
              obtain ⟨g, lb, k1, k2, k3⟩ := hA3
              have hlo := hL2.aq.b1
              have hlo2 := hL2.aq.b2
              exact ⟨g, lb, k1, k2, fun W neg ds k hW => k3 W neg ds k (fun i o hi => hW i o (by omega))⟩
            have hz2 := hL2.z2
            have hz3' := hL2.z3
            clear hrel hL2 hK3 hk3 hbd3 hB3 hR3 hgA hjz hz3
            go_upto_if 48 with fail
            have hxl := hL3.aq.len
            have hLO : w.heap.size + 1 + 1 + 1 + 1 ≤ w3.heap.size := by have := hL3.aq.b1; have := hL3.aq.b2; omega
            obtain ⟨R1, hr1⟩ : ∃ R1, (if j = orB then rows ++ [[]] else rows) = R1 := ⟨_, rfl⟩
            have HR1 := Lib.hid hr1
            clear hr1
            go_cut [7] (fun s7 wx => s7 = .string j ∧ ∃ (av : Value) (xs : List (Option Addr × Nat × Nat)) (base : Nat), LP w s p t' R1 av xs base wx ∧ Asks (w.heap.size + 1 + 1 + 1 + 1) wx (TsV (g1, lb1)) (fun ds k => rlH ds k r))
            case first =>
              by_cases hjo : j = orB
              · have bo := tl_yes (l := [111, 114]) hjo
                have HR2 := Lib.hid (show R1 = rows ++ [[]] by rw [← HR1.out, if_pos hjo])
                rw [bo]
                have hcb : Blk w3 (w.heap.size + 1 + 1 + 1) #[av] := ⟨_, hL3.aq.cell⟩
                have c0 := hcb.cell 0
                simp at c0
                have hfm := hL3.aq.out.form'
                obtain ⟨aa, an, ac, rfl⟩ := hfm
                clear hjo bo hjn
                go_wp2_with (at_builtin; go_must (refine wpList_snoc_g RwE (x := (none, 0, 0)) rfl _ _ rfl (w.heap.size + 1 + 1 + 1 + 1) _ xs rfl (hL3.on ((Below.refl _ _).alloc (Nat.le_refl _) (.cells #[.slice none 0 0] 104))).aq.out 1 _ rfl (Blk.new _ _ _) (by omega) (by simp; omega) ?_); intro v' w4 hrow4 hg4; obtain ⟨a', n', c', rfl⟩ := hrow4.form'; have hLr := (hL3.on ((Below.refl _ _).alloc (Nat.le_refl _) (.cells #[.slice none 0 0] 104))).row hrow4 hg4 (by omega); have hcb4 := hg4.block (w.heap.size + 1 + 1 + 1) (by simp; omega) (fun e => by have := (hL3.on ((Below.refl _ _).alloc (Nat.le_refl _) (.cells #[.slice none 0 0] 104))).aq.out.own _ e.symm; omega); have hcb5 : Blk w4 (w.heap.size + 1 + 1 + 1) _ := ⟨_, hcb4.trans (hL3.on ((Below.refl _ _).alloc (Nat.le_refl _) (.cells #[.slice none 0 0] 104))).aq.cell⟩; have c5 := hcb5.cell 0; have cf5 := hcb5.free 0; simp at c5)
                go_meet
                case rel => exact ⟨rfl, _, _, _, by rw [HR2.out]; exact hLr.1, hA3.on ((Fr.of ((Below.refl _ _).alloc (Nat.le_refl _) (.cells #[.slice none 0 0] 104))).trans hLr.2)⟩
              · have bo := tl_no (l := [111, 114]) hjo
                have HR2 := Lib.hid (show R1 = rows by rw [← HR1.out, if_neg hjo])
                rw [bo]
                go_wp2_with fail
                go_meet
                case rel => exact ⟨rfl, _, _, _, by rw [HR2.out]; exact hL3, hA3⟩
            case rest =>
              obtain ⟨rfl, av4, xs4, base4, hL4, hA4⟩ := hcut
              have hR1n : 1 ≤ R1.length := by
                rw [← HR1.out]
                split
                · simp
                · rename_i hjo
                  have := HNE.out (HJ.out.resolve_right hjo)
                  cases rows with
                  | nil => exact absurd rfl this
                  | cons _ _ => simp
              obtain ⟨m, hm⟩ : ∃ m, R1.length = m + 1 := ⟨R1.length - 1, by omega⟩
              have hxm : xs4.length = m + 1 := hL4.aq.len.trans hm
              have hst : stp rows (j, r) = R1.set m (R1[m] ++ [r]) := by
                show putRow (if j = orB then rows ++ [[]] else rows) r = _
                rw [HR1.out]
                exact putRow_set hm
              have HST := Lib.hid hst
              have hlast := hL4.aq.lst m (by omega) (by omega) (by omega)
              have hz4 : R1[m].length ≤ a := by
                have hall : ∀ r ∈ R1, r.length ≤ a := by
                  rw [← HR1.out]
                  intro r hr
                  split at hr
                  · rcases List.mem_append.1 hr with hr | hr
                    · exact hz3' r hr
                    · rw [List.mem_singleton.1 hr]; exact Nat.zero_le _
                  · exact hz3' r hr
                exact hall _ (List.getElem_mem (by omega))
              have hav := hL4.aq.out.read
              rcases hav with ⟨hnil, _⟩ | ⟨ob, ocap, hav, hob1, hob2, hoc1, hoc2, hocell⟩
              · rw [hnil] at hxm; simp at hxm
              have hcell0 := hocell m (by omega) 0 (by decide)
              have hcell : wc.cell? ⟨ob, m, none⟩ = some (RwV xs4[m]) := by simpa [RwE] using hcell0
              clear hcell0
              rw [hxm] at hav
              subst hav
              have hcb : Blk wc (w.heap.size + 1 + 1 + 1) #[.slice (some ⟨ob, 0, none⟩) (m + 1) ocap] := ⟨_, hL4.aq.cell⟩
              have c0 : wc.drew.cell? ⟨w.heap.size + 1 + 1 + 1, 0, none⟩ = some (.slice (some ⟨ob, 0, none⟩) (m + 1) ocap) := hcb.cell 0
              have hob3 : ∃ co, wc.heap[ob]? = some (.cells co RwE.T (0, 0)) := hL4.aq.out.kind ob rfl
              obtain ⟨ys, hold, _, hys, hasks⟩ := hlast
              obtain ⟨x, hx⟩ : ∃ x, xs4[m] = x := ⟨_, rfl⟩
              rw [hx] at hcell hold
              have hL5 := hL4.on ((Below.refl wc.heap.size wc).drew)
              have hmm : (m : Int) < 9223372036854775807 := by have := hL4.z2; have := hL4.rs.sin; omega
              have e1 : IntKind.i64.wrap (((m + 1 : Nat) : Int) - 1) = m := by rw [show ((m + 1 : Nat) : Int) - 1 = m by omega]; exact IntWalk.i64_in _ (by omega)
              have e1' : IntKind.i64.wrap ((m : Int) + 1 - 1) = m := by rw [show (m : Int) + 1 - 1 = m by omega]; exact IntWalk.i64_in _ (by omega)
              have e0 : IntKind.i64.wrap (m : Int) = m := IntWalk.i64_in _ (by omega)
              have e2 : (0 : Int) ≤ m := by omega
              have e3 : (m : Int) < ((m + 1 : Nat) : Int) := by omega
              have e3' : (m : Int) < (m : Int) + 1 := by omega
              have e4 : ((m : Nat) : Int).toNat = m := rfl
              have hcell5 : wc.drew.cell? ⟨ob, m, none⟩ = some (RwV x) := hcell
              have hold5 : GRow TsE base4 wc.drew (RwV x) ys := hold
              obtain ⟨co, hob3⟩ := hob3
              have hob5 : wc.drew.heap[ob]? = some (.cells co RwE.T (0, 0)) := hob3
              have HXM := Lib.hid hxm; have HM := Lib.hid hm; have HYS := Lib.hid hys; have HASKS := Lib.hid hasks; have HX := Lib.hid hx; have HHZ := Lib.hid hz4
              have HDR := Lib.hid ((Below.refl wc.heap.size wc).drew)
              have hA5 := hA4.on (Fr.of ((Below.refl wc.heap.size wc).drew))
              clear hL4 hcell hold hob3 hys hasks hz4 hocell hcb hL3 hA3 hA4 hst hR1n
              obtain ⟨xa, xb, xc⟩ := x
              simp only [RwV] at hcell5
              have hobD : wc.drew.heap[ob]? = some (.cells co RwE.T (0, 0)) := hob5
              have hAl := (Below.refl wc.drew.heap.size wc.drew).alloc (Nat.le_refl _) (.cells #[.func (.func g1) #[] lb1] 74)
              have hLA := hL5.on hAl
              have holdA := hold5.on hAl
              have hbase : base4 ≤ (wc.drew.alloc (.cells #[.func (.func g1) #[] lb1] 74)).heap.size := hLA.aq.b2
              have hAA := hA5.on (Fr.of hAl)
              have hobA : (wc.drew.alloc (.cells #[.func (.func g1) #[] lb1] 74)).heap[ob]? = some (.cells co RwE.T (0, 0)) := (hAl.block ob (lt_some hob5)).trans hob5
              have cellA : (wc.drew.alloc (.cells #[.func (.func g1) #[] lb1] 74)).cell? ⟨ob, m, none⟩ = some (.slice xa xb xc) := (cell_same (hAl.block ob (lt_some hob5))).trans hcell5
              have hasks6 : ∀ i (hi : i < ys.length) (hr : i < R1[m].length), Asks (w.heap.size + 1 + 1 + 1 + 1) (wc.drew.alloc (.cells #[.func (.func g1) #[] lb1] 74)) (TsV ys[i]) (fun ds k => rlH ds k R1[m][i]) := fun i hi hr => (HASKS.out i hi hr).on ((Fr.of HDR.out).trans (Fr.of hAl))
              have HASKS6 := Lib.hid hasks6
              have hysl : ys.length ≤ 10000 := by have := HYS.out; have := HHZ.out; have := hps; omega
              have hSD : (∀ o, wc.drew.cell? ⟨w.heap.size + 1 + 1 + 1, o, none⟩ = #[Value.slice (some ⟨ob, 0, none⟩) (m + 1) ocap][o]?) := Blk.cell (show Blk wc.drew (w.heap.size + 1 + 1 + 1) #[.slice (some ⟨ob, 0, none⟩) (m + 1) ocap] from ⟨_, hL5.aq.cell⟩)
              have hSA : (∀ o, (wc.drew.alloc (.cells #[.func (.func g1) #[] lb1] 74)).cell? ⟨w.heap.size + 1 + 1 + 1, o, none⟩ = #[Value.slice (some ⟨ob, 0, none⟩) (m + 1) ocap][o]?) := Blk.cell (show Blk (wc.drew.alloc (.cells #[.func (.func g1) #[] lb1] 74)) (w.heap.size + 1 + 1 + 1) #[.slice (some ⟨ob, 0, none⟩) (m + 1) ocap] from ⟨_, hLA.aq.cell⟩)
              have HSD := Lib.hid hSD; have HSA := Lib.hid hSA
              have HLA := Lib.hid hLA; have HOA := Lib.hid holdA; have HAA := Lib.hid hAA
              clear hL5 hA5 hold5 hob5 hobD c0 hLA hAA hAl hSD hSA hasks6
              have hmR : m < R1.length := by have := HM.out; omega
              have hrz : R1[m].length + 1 ≤ p := by have := HHZ.out; omega
              have hpk : ∀ (w6 : World) (a' : Option Addr) (n' c' : Nat), GRow TsE base4 w6 (.slice a' n' c') (ys ++ [(g1, lb1)]) → (wc.drew.alloc (.cells #[.func (.func g1) #[] lb1] 74)).grownBy w6 (RwV (xa, xb, xc)).ownBlock →
                  LP w s p t' (stp rows (j, r)) (.slice (some ⟨ob, 0, none⟩) (m + 1) ocap) (xs4.set m (a', n', c')) base4 (w6.setCell ⟨ob, m, none⟩ (.slice a' n' c')) ∧ w6.frozen? ⟨ob, m, none⟩ = false ∧ w6.cell? ⟨ob, m, none⟩ = some (.slice xa xb xc) ∧ (∀ o, w6.cell? ⟨w.heap.size + 1 + 1 + 1, o, none⟩ = #[Value.slice (some ⟨ob, 0, none⟩) (m + 1) ocap][o]?) ∧ (∀ o, (w6.setCell ⟨ob, m, none⟩ (.slice a' n' c')).cell? ⟨w.heap.size + 1 + 1 + 1, o, none⟩ = #[Value.slice (some ⟨ob, 0, none⟩) (m + 1) ocap][o]?) := by
                intro w6 a' n' c' hrow6 hg6
                have hLp := HLA.out.put m HXM.out.symm hmR rfl (xa, xb, xc) (a', n', c') HX.out ys (g1, lb1) r HYS.out HASKS6.out HOA.out hrow6 hg6 HAA.out rfl hrz
                have hob6 := hg6.block ob (lt_some hobA) (fun e => row_ne HOA.out hobA e.symm)
                have hab6 := hg6.block (w.heap.size + 1 + 1 + 1) (lt_some HLA.out.aq.cell) (fun e => by have := HOA.out.own _ e.symm; have := HLA.out.aq.b1; omega)
                refine ⟨?_, Blk.free (show Blk w6 ob co from ⟨_, hob6.trans hobA⟩) m, (cell_same hob6).trans cellA, fun o => (cell_same hab6).trans (HSA.out o), Blk.cell (show Blk _ _ _ from ⟨_, hLp.aq.cell⟩)⟩
                rw [HST.out]
                exact hLp
              have HPK := Lib.hid hpk
              clear hpk
              have hcellw : wc.cell? ⟨ob, m, none⟩ = some (.slice xa xb xc) := hcell5
              have hobD2 : ob < wc.drew.heap.size := hob2
              have hobne : wc.drew.heap.size ≠ ob := by omega
              have hobne2 : wc.heap.size ≠ ob := by omega
              go_upto_region 18 with fail
              refine wp_region_held_drew (S := fun w' => ∀ o, w'.cell? ⟨w.heap.size + 1 + 1 + 1, o, none⟩ = #[Value.slice (some ⟨ob, 0, none⟩) (m + 1) ocap][o]?) (by kernel_rfl) (HSD.out) (fun hHeld => ?_)
              refine wpAnyH_take (i := 0) (v := ?_) rfl (by kernel_rfl) (by kernel_rfl) (by kernel_rfl) (fun _ _ _ h => h) (Or.inl ⟨by rfl, ?_⟩) hHeld ?_
              rotate_left
              · intro w hSw; (try dsimp only at hSw); first | (go_simp; done) | (go_simp; with_reducible rfl)
              try simp only [Act.put, List.setIfInBounds_toArray, List.set_cons_zero, List.set_cons_succ, List.getElem_toArray, List.getElem_cons_zero]
              refine wpAnyH_take (i := 1) (v := ?_) rfl (by kernel_rfl) (by kernel_rfl) (by kernel_rfl) (fun _ _ _ h => h) (Or.inl ⟨by rfl, ?_⟩) hHeld ?_
              rotate_left
              · intro w hSw; (try dsimp only at hSw); first | (go_simp; done) | (go_simp; with_reducible rfl)
              try simp only [Act.put, List.setIfInBounds_toArray, List.set_cons_zero, List.set_cons_succ, List.getElem_toArray, List.getElem_cons_zero, List.getElem_cons_succ]
              refine wpAnyH_take (i := 2) (v := ?_) rfl (by kernel_rfl) (by kernel_rfl) (by kernel_rfl) (fun _ _ _ h => h) (Or.inl ⟨by rfl, ?_⟩) hHeld ?_
              rotate_left
              · intro w hSw; (try dsimp only at hSw); first | (go_simp; done) | (go_simp; with_reducible rfl)
              try simp only [Act.put, List.setIfInBounds_toArray, List.set_cons_zero, List.set_cons_succ, List.getElem_toArray, List.getElem_cons_zero, List.getElem_cons_succ]
              refine wpAnyH_take (i := 3) (v := ?_) rfl (by kernel_rfl) (by kernel_rfl) (by kernel_rfl) (fun _ _ _ h => h) (Or.inl ⟨by rfl, ?_⟩) hHeld ?_
              rotate_left
              · intro w hSw; (try dsimp only at hSw); first | (go_simp; done) | (go_simp; with_reducible rfl)
              try simp only [Act.put, List.setIfInBounds_toArray, List.set_cons_zero, List.set_cons_succ, List.getElem_toArray, List.getElem_cons_zero, List.getElem_cons_succ]
              refine wpAnyH_take (i := 4) (v := ?_) rfl (by kernel_rfl) (by kernel_rfl) (by kernel_rfl) (fun _ _ _ h => h) (Or.inl ⟨by rfl, ?_⟩) hHeld ?_
              rotate_left
              · intro w hSw; (try dsimp only at hSw); first | (go_simp; done) | (go_simp; with_reducible rfl)
              try simp only [Act.put, List.setIfInBounds_toArray, List.set_cons_zero, List.set_cons_succ, List.getElem_toArray, List.getElem_cons_zero, List.getElem_cons_succ]
              refine wpAnyH_take (i := 5) (v := ?_) rfl (by kernel_rfl) (by kernel_rfl) (by kernel_rfl) (fun _ _ _ h => h) (Or.inl ⟨by rfl, ?_⟩) hHeld ?_
              rotate_left
              · intro w hSw; (try dsimp only at hSw); first | (go_simp; done) | (go_simp; with_reducible rfl)
              try simp only [Act.put, List.setIfInBounds_toArray, List.set_cons_zero, List.set_cons_succ, List.getElem_toArray, List.getElem_cons_zero, List.getElem_cons_succ]
              refine wpAnyH_take (i := 6) (v := ?_) rfl (by kernel_rfl) (by kernel_rfl) (by kernel_rfl) (fun _ _ _ h => h) (Or.inl ⟨by rfl, ?_⟩) hHeld ?_
              rotate_left
              · intro w hSw; (try dsimp only at hSw); first | (go_simp; done) | (go_simp; with_reducible rfl)
              try simp only [Act.put, List.setIfInBounds_toArray, List.set_cons_zero, List.set_cons_succ, List.getElem_toArray, List.getElem_cons_zero, List.getElem_cons_succ]
              refine wpAnyH_take (i := 7) (v := ?_) rfl (by kernel_rfl) (by kernel_rfl) (by kernel_rfl) (fun _ _ _ h => h) (Or.inl ⟨by rfl, ?_⟩) hHeld ?_
              rotate_left
              · intro w hSw; (try dsimp only at hSw); first | (go_simp; done) | (go_simp; with_reducible rfl)
              try simp only [Act.put, List.setIfInBounds_toArray, List.set_cons_zero, List.set_cons_succ, List.getElem_toArray, List.getElem_cons_zero, List.getElem_cons_succ]
              refine wpAnyH_take (i := 8) (v := ?_) rfl (by kernel_rfl) (by kernel_rfl) (by kernel_rfl) (fun _ _ _ h => h) (Or.inl ⟨by rfl, ?_⟩) hHeld ?_
              rotate_left
              · intro w hSw; (try dsimp only at hSw); first | (go_simp; done) | (go_simp; with_reducible rfl)
              try simp only [Act.put, List.setIfInBounds_toArray, List.set_cons_zero, List.set_cons_succ, List.getElem_toArray, List.getElem_cons_zero, List.getElem_cons_succ]
              refine wpAnyH_take (i := 10) (v := ?_) rfl (by kernel_rfl) (by kernel_rfl) (by kernel_rfl) (fun _ _ _ h => h) (Or.inl ⟨by rfl, ?_⟩) hHeld ?_
              rotate_left
              · intro w hSw; (try dsimp only at hSw); first | (go_simp; done) | (go_simp; with_reducible rfl)
              try simp only [Act.put, List.setIfInBounds_toArray, List.set_cons_zero, List.set_cons_succ, List.getElem_toArray, List.getElem_cons_zero, List.getElem_cons_succ]
              refine wpAnyH_ready (rs := [9, 11]) (by kernel_rfl) (by simp) ?_
              refine AllReadyH.cons rfl (fun K hK => ?_) ?_
              go_simp
              refine hK.out _ _ (HSD.out) (fun hHeld => ?_)
              clear hK K
              refine wpAnyH_ready (rs := [11]) (by kernel_rfl) (by simp) ?_
              refine AllReadyH.cons rfl (fun K hK => ?_) AllReadyH.nil
              go_simp
              refine hK.out _ _ (HSA.out) (fun hHeld => ?_)
              clear hK K
              refine wpAnyH_ready (rs := [12]) (by kernel_rfl) (by simp) ?_
              refine AllReadyH.cons rfl (fun K hK => ?_) AllReadyH.nil
              (refine step_snoc_g TsE (x := (g1, lb1)) rfl _ _ rfl base4 (RwV (xa, xb, xc)) ys rfl HOA.out 1 _ rfl (Blk.new _ _ _) (by omega) hbase ?_; intro v' w6 hrow6 hg6; obtain ⟨a', n', c', rfl⟩ := hrow6.form'; obtain ⟨hLp, f6, c6, hS6, hS7⟩ := HPK.out _ _ _ _ hrow6 hg6)
              refine hK.out _ _ (hS6) (fun hHeld => ?_)
              clear hK K
              refine wpAnyH_take (i := 13) (v := ?_) rfl (by kernel_rfl) (by kernel_rfl) (by kernel_rfl) (fun _ _ _ h => h) (Or.inl ⟨by rfl, ?_⟩) hHeld ?_
              rotate_left
              · intro w hSw; (try dsimp only at hSw); first | (go_simp; done) | (go_simp; with_reducible rfl)
              try simp only [Act.put, List.setIfInBounds_toArray, List.set_cons_zero, List.set_cons_succ, List.getElem_toArray, List.getElem_cons_zero, List.getElem_cons_succ]
              refine wpAnyH_ready (rs := [14]) (by kernel_rfl) (by simp) ?_
              refine AllReadyH.cons rfl (fun K hK => ?_) AllReadyH.nil
              go_simp
              refine hK.out _ _ (hS7) (fun hHeld => ?_)
              clear hK K
              refine wpAnyH_done (by kernel_rfl) ?_ _
              rotate_left
              refine AllReadyH.cons rfl (fun K hK => ?_) ?_
              go_simp
              refine hK.out _ _ (HSA.out) (fun hHeld => ?_)
              clear hK K
              refine wpAnyH_ready (rs := [9]) (by kernel_rfl) (by simp) ?_
              refine AllReadyH.cons rfl (fun K hK => ?_) AllReadyH.nil
              go_simp
              refine hK.out _ _ (HSA.out) (fun hHeld => ?_)
              clear hK K
              refine wpAnyH_ready (rs := [12]) (by kernel_rfl) (by simp) ?_
              refine AllReadyH.cons rfl (fun K hK => ?_) AllReadyH.nil
              (refine step_snoc_g TsE (x := (g1, lb1)) rfl _ _ rfl base4 (RwV (xa, xb, xc)) ys rfl HOA.out 1 _ rfl (Blk.new _ _ _) (by omega) hbase ?_; intro v' w6 hrow6 hg6; obtain ⟨a', n', c', rfl⟩ := hrow6.form'; obtain ⟨hLp, f6, c6, hS6, hS7⟩ := HPK.out _ _ _ _ hrow6 hg6)
              refine hK.out _ _ (hS6) (fun hHeld => ?_)
              clear hK K
              refine wpAnyH_take (i := 13) (v := ?_) rfl (by kernel_rfl) (by kernel_rfl) (by kernel_rfl) (fun _ _ _ h => h) (Or.inl ⟨by rfl, ?_⟩) hHeld ?_
              rotate_left
              · intro w hSw; (try dsimp only at hSw); first | (go_simp; done) | (go_simp; with_reducible rfl)
              try simp only [Act.put, List.setIfInBounds_toArray, List.set_cons_zero, List.set_cons_succ, List.getElem_toArray, List.getElem_cons_zero, List.getElem_cons_succ]
              refine wpAnyH_ready (rs := [14]) (by kernel_rfl) (by simp) ?_
              refine AllReadyH.cons rfl (fun K hK => ?_) AllReadyH.nil
              go_simp
              refine hK.out _ _ (hS7) (fun hHeld => ?_)
              clear hK K
              refine wpAnyH_done (by kernel_rfl) ?_ _
              rotate_left
              exact AllReadyH.nil
              all_goals
                have HSX := Lib.hid hS6
                clear hS6 hS7 f6 c6 hrow6 hcell5 cellA hcellw
                have k2 := hLp.rs.sc.cell 2
                have k1 := hLp.rs.sc.cell 1
                have hspk : Blk (w6.setCell ⟨ob, m, none⟩ (.slice a' n' c')) w.heap.size #[.int .i64 0, .int .i64 0] := ⟨_, hLp.sp⟩
                have p0 := hspk.cell 0
                have p1 := hspk.cell 1
                have pf0 := hspk.free 0
                have pf1 := hspk.free 1
                generalize w6.setCell ⟨ob, m, none⟩ (.slice a' n' c') = w7 at *
                simp at k1 k2 p0 p1
                have hge := nx_ge (s := s) (a := p)
                have hnin := nx_in (s := s) hps
                rw [← tx_size hps] at hge
                by_cases hja : tx s p = andB ∨ tx s p = orB
                · have hts := (joint_low hja).1
                  have hpn : p ≤ nx s p := by omega
                  have hz9 : t'.size ≤ 3 * nx s p := by omega
                  have hj9 : (jointT t' (tx s p)).size ≤ 3 * nx s p := by
                    rcases Nat.eq_zero_or_pos t'.size with h | h
                    · rw [jointT_none h]; omega
                    · rw [jointT_pos h, ByteArray.size_append, bl_app]; omega
                  have HGO2 := Lib.hid (show ruleP s = ruleF s f (nx s p) (stp rows (j, r)) t' (tx s p) by rw [HGO.out]; unfold goOn; rw [if_pos hja])
                  have HNE2 := Lib.hid (show stp rows (j, r) ≠ [] from by rw [HST.out]; intro e; have := congrArg List.length e; rw [List.length_set] at this; have h0 : ([] : List (List Rl)).length = 0 := rfl; omega)
                  rcases hja with hja | hja
                  · have b1 := tl_yes (l := [97, 110, 100]) hja
                    have HJA := Lib.hid hja
                    clear hja
                    go_wp2_with fail
                    have hnx := hLp.rs.next
                    clear k1 k2 p0 p1 pf0 pf1
                    refine hnx.mono ?_
                    rintro e w9 ⟨rfl, hR9⟩
                    go_wp2_with fail
                    have hL9 := hLp.kp hR9 hR9.kp hR9.o5 hz9 hpn
                    go_roundg (s.size + 1 - nx s p)
                    case rel => exact ⟨tx s p, nx s p, t', _, _, _, _, f, rfl, hL9, .inl ⟨.inl HJA.out, by omega, HGO2.out, by have := HF.out; omega, hj9, fun e => HNE2.out⟩⟩
                    case measure => have := HG.out; omega
                  · have b1 := tl_no (X := tx s p) (l := [97, 110, 100]) (by rw [hja]; decide)
                    have b2 := tl_yes (l := [111, 114]) hja
                    have HJA := Lib.hid hja
                    clear hja
                    go_wp2_with fail
                    have hnx := hLp.rs.next
                    clear k1 k2 p0 p1 pf0 pf1
                    refine hnx.mono ?_
                    rintro e w9 ⟨rfl, hR9⟩
                    go_wp2_with fail
                    have hL9 := hLp.kp hR9 hR9.kp hR9.o5 hz9 hpn
                    go_roundg (s.size + 1 - nx s p)
                    case rel => exact ⟨tx s p, nx s p, t', _, _, _, _, f, rfl, hL9, .inl ⟨.inr HJA.out, by omega, HGO2.out, by have := HF.out; omega, hj9, fun e => HNE2.out⟩⟩
                    case measure => have := HG.out; omega
                · have b1 := tl_no (X := tx s p) (l := [97, 110, 100]) (fun e => hja (.inl e))
                  have b2 := tl_no (X := tx s p) (l := [111, 114]) (fun e => hja (.inr e))
                  by_cases hsz : (tx s p).size = 0
                  · have b3 := bytes_nil hsz
                    have hempty : tx s p = ⟨#[]⟩ := ByteArray.ext (Array.eq_empty_of_size_eq_zero hsz)
                    have HEM := Lib.hid hempty
                    have HGO2 := Lib.hid (show ruleP s = .ok p (stp rows (j, r)) t' by rw [HGO.out]; unfold goOn; rw [if_neg hja, if_pos hsz])
                    clear hja hsz hempty
                    go_wp2_with fail
                    go_roundg 0
                    case rel => exact ⟨tx s p, p, t', _, _, _, _, f, rfl, hLp, .inr ⟨HEM.out, rfl, HGO2.out⟩⟩
                    case measure => have := HG.out; omega
                  · have b3 := bytes_ne hsz
                    have HB := Lib.hid (show ruleP s = .bad p by rw [HGO.out]; unfold goOn; rw [if_neg hja, if_neg hsz])
                    clear hja hsz
                    go_wp2_with fail
                    have hq := ((hspk.set 0 (.int .i64 250)).set 1 (.int .i64 p)).drew
                    have hBE := ((hLp.rs.bel.setCell (p := ⟨w.heap.size, 0, none⟩) (Nat.le_refl _) (.int .i64 250)).setCell (p := ⟨w.heap.size, 1, none⟩) (Nat.le_refl _) (.int .i64 p)).drew
                    clear hLp HLA HOA
                    go_region
                    go_wp2_with fail
                    have r0 := hq.cell 0
                    have r1 := hq.cell 1
                    simp at r0 r1
                    refine bodyPost_ret (v := .tuple #[.pointer none, .agg #[.int .i64 250, .int .i64 p]]) (by simp [results, Tryz.results25, go_sem, r0, r1]) rfl ⟨?_, hBE⟩
                    rw [HB.out]
      · have hlo := hL.aq.b1
        have hlo2 := hL.aq.b2
        have hbs := Tryz.Builder_String_any_k (w.heap.size + 1 + 1) (w.heap.size + 1 + 1) t.data.toList wr (Lib.IsBuilderF.of hL.rs.bld) (by omega)
        have htx : (⟨t.data.toList.toArray⟩ : ByteArray) = t := by cases t; simp
        rw [htx] at hbs
        have HRU2 := Lib.hid hru
        have hz2 := hL.z2; have hz3 := hL.z3; have has := hL.rs.ain
        clear hru htx
        go_wp2_with fail
        refine hbs.mono ?_
        rintro e w2 ⟨rfl, _, hB2, hO2⟩
        have hK2 : KP (w.heap.size + 1) (w.heap.size + 1 + 1) wr w2 := .okp hO2
        have hBe := hL.rs.bel.trans (hB2.mono (by omega))
        have hQ2 := hL.aq.kp hK2 hB2.size (by omega) (by omega) (by omega) (by omega)
        have hsp2 : Blk w2 w.heap.size #[.int .i64 0, .int .i64 0] := ⟨_, hK2 _ _ hL.sp (by omega) (by omega) (fun c fz e => absurd (show 53 = 5 by injection e) (by decide))⟩
        have p0 := hsp2.cell 0; have p1 := hsp2.cell 1; have pf0 := hsp2.free 0; have pf1 := hsp2.free 1
        simp at p0 p1
        have hwz2 := hB2.size
        have hwlt : w.heap.size < w2.heap.size := by omega
        have hQ3 := (hQ2.set w.heap.size 0 (.int .i64 0) (by omega) (by omega)).set w.heap.size 1 (.int .i64 0) (by omega) (by omega)
        have hA := ((hBe.setCell (p := ⟨w.heap.size, 0, none⟩) (Nat.le_refl _) (.int .i64 0)).setCell (p := ⟨w.heap.size, 1, none⟩) (Nat.le_refl _) (.int .i64 0)).alloc (by simp; omega) (.cells #[.string t, .func (.func 43) #[] #[.pointer (some ⟨w.heap.size + 1 + 1 + 1, 0, none⟩)]] 76)
        have hAl := (Below.refl ((w2.setCell ⟨w.heap.size, 0, none⟩ (.int .i64 0)).setCell ⟨w.heap.size, 1, none⟩ (.int .i64 0)).heap.size ((w2.setCell ⟨w.heap.size, 0, none⟩ (.int .i64 0)).setCell ⟨w.heap.size, 1, none⟩ (.int .i64 0))).alloc (Nat.le_refl _) (.cells #[.string t, .func (.func 43) #[] #[.pointer (some ⟨w.heap.size + 1 + 1 + 1, 0, none⟩)]] 76)
        have hk : Blk (((w2.setCell ⟨w.heap.size, 0, none⟩ (.int .i64 0)).setCell ⟨w.heap.size, 1, none⟩ (.int .i64 0)).alloc (.cells #[.string t, .func (.func 43) #[] #[.pointer (some ⟨w.heap.size + 1 + 1 + 1, 0, none⟩)]] 76)) w2.heap.size #[.string t, .func (.func 43) #[] #[.pointer (some ⟨w.heap.size + 1 + 1 + 1, 0, none⟩)]] := Blk.new' _ _ _ _ (by simp)
        have q := ((hsp2.set 0 (.int .i64 0)).set 1 (.int .i64 0)).alloc (.cells #[.string t, .func (.func 43) #[] #[.pointer (some ⟨w.heap.size + 1 + 1 + 1, 0, none⟩)]] 76)
        have r0 := q.cell 0
        have r1 := q.cell 1
        simp at r0 r1
        have hH : HoldsOn w.heap.size (((w2.setCell ⟨w.heap.size, 0, none⟩ (.int .i64 0)).setCell ⟨w.heap.size, 1, none⟩ (.int .i64 0)).alloc (.cells #[.string t, .func (.func 43) #[] #[.pointer (some ⟨w.heap.size + 1 + 1 + 1, 0, none⟩)]] 76)) (.func (.func 43) #[] #[.pointer (some ⟨w.heap.size + 1 + 1 + 1, 0, none⟩)]) rows :=
          ⟨_, _, rfl, enters_of Tryz.func43 (by kernel_rfl) rfl, fun W neg ds k hW hPW hrt => by
            have hU := (Up.of (lo := w.heap.size) hAl).trans hW
            have hcb : Blk W (w.heap.size + 1 + 1 + 1) #[av] := ⟨_, (hU.2 _ (by omega) (lt_some hQ3.cell)).trans hQ3.cell⟩
            exact n3_any _ hrt _ av W rows (hQ3.ison.is (hU.mono (by omega))) (by omega) (fun r hr => by have := hz3 r hr; omega) hcb hPW⟩
        have HA := Lib.hid hA; have HH := Lib.hid hH; have HK := Lib.hid hk
        clear hbs hO2 hK2 hBe hQ2 hQ3 hA hAl hk hH q hL HL
        go_wp2_with fail
        refine bodyPost_ret (v := .tuple #[.pointer (some ⟨w2.heap.size, 0, none⟩), .agg #[.int .i64 0, .int .i64 0]]) (by simp [results, Tryz.results25, go_sem, r0, r1]) rfl ⟨?_, HA.out⟩
        rw [HRU2.out]
        exact ⟨_, rfl, _, _, rfl, Nat.le_of_lt hwlt, HK.out, HH.out⟩
end Go.Proofs.YtgbemhehbhlgpaaGreatDoor
