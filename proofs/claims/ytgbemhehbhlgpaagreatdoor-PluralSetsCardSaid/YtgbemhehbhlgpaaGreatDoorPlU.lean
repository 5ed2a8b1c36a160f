/-
  Rules for numbers: the walk of a relation, whole.
-/
import Derived.Test.YtgbemhehbhlgpaaGreatDoorPlR
import Derived.Deep.DeepCutAuto
import Derived.Laws.EntriesVeiled
namespace Go.Proofs.YtgbemhehbhlgpaaGreatDoor
open Go.RowKit Go.PlainAid

theorem rl_pass2 (rest : Code) (hrest : findLabel rlCode 0 = some rest) (w0 wS : World) (sb bb : Nat) (s : ByteArray) (R : Pr Rl) (Q : Exit → Act → World → Prop) (hQ : ∀ a w', bodyPost Tryz.prog Tryz.f41 (fun e w' => RelEnd w0 wS sb bb s R e w') .ret a w' → Q .ret a w')
    (a : Act) (w : World) (hK : RJ w0 wS sb bb s R a w) : rest.wp Tryz.prog (Exit.jump 0 (fun a' w' => RJ w0 wS sb bb s R a' w' ∧ RM sb s a' w' < RM sb s a w) Q) a w := by
  obtain ⟨c, hc, h⟩ := rl_pass
  obtain rfl : rest = .seq .skip c := Option.some.inj (hrest.symm.trans hc)
  refine wp_seq (wp_skip ?_)
  exact h w0 wS sb bb s R _ a w hK (fun a' w' hp => hQ a' w' hp) (fun a2 w2 hJ2 hlt => ⟨rfl, hJ2, hlt⟩)
theorem rl_fall (c : Code) (hrest : findLabel rlCode 0 = some (.seq .skip c)) (w0 wS : World) (sb bb : Nat) (s : ByteArray) (R : Pr Rl) (Q : Exit → Act → World → Prop) (hQ : ∀ a w', bodyPost Tryz.prog Tryz.f41 (fun e w' => RelEnd w0 wS sb bb s R e w') .ret a w' → Q .ret a w')
    (a : Act) (w : World) (hK : RJ w0 wS sb bb s R a w) : c.wp Tryz.prog (Exit.jump 0 (RJ w0 wS sb bb s R) Q) a w := by
  obtain ⟨c', hc, h⟩ := rl_pass
  obtain rfl : c = c' := by have := Option.some.inj (hrest.symm.trans hc); injection this
  exact h w0 wS sb bb s R _ a w hK (fun a' w' hp => hQ a' w' hp) (fun a2 w2 hJ2 hlt => ⟨rfl, hJ2⟩)

theorem bl_app (X : ByteArray) : ((⟨#[32]⟩ : ByteArray) ++ X ++ ⟨#[32]⟩).size = 1 + X.size + 1 := by rw [ByteArray.size_append, ByteArray.size_append]; rfl
theorem pc_app (X : ByteArray) : ((⟨#[32, 37, 32]⟩ : ByteArray) ++ X).size = 3 + X.size := by rw [ByteArray.size_append]; rfl
theorem relR_none {s : ByteArray} {a : Nat} {t : ByteArray} (h : opOf (tx s a) = none) : relR s a t = .bad a := by unfold relR; rw [h]
theorem relR_bad {s : ByteArray} {a q1 q2 : Nat} {t : ByteArray} {o : Int} (e1 : nx s a = q1) (e2 : nx s q1 = q2) (h : opOf (tx s a) = some o) (h1 : tx s q1 = ⟨#[37]⟩) (h2 : numOf (tx s q2) = none) : relR s a t = .bad q2 := by
  subst e1 e2
  unfold relR
  rw [h]
  simp only
  rw [if_pos h1, h2]
theorem relR_by {s : ByteArray} {a q1 q2 q3 n : Nat} {t : ByteArray} {o : Int} (e1 : nx s a = q1) (e2 : nx s q1 = q2) (e3 : nx s q2 = q3) (h : opOf (tx s a) = some o) (h1 : tx s q1 = ⟨#[37]⟩) (h2 : numOf (tx s q2) = some n) : relR s a t = relT s o n q3 (t ++ tx s a ++ (⟨#[32, 37, 32]⟩ ++ tx s q2)) := by
  subst e1 e2 e3
  unfold relR
  rw [h]
  simp only
  rw [if_pos h1, h2]
theorem relR_no {s : ByteArray} {a q1 : Nat} {t : ByteArray} {o : Int} (e1 : nx s a = q1) (h : opOf (tx s a) = some o) (h1 : tx s q1 ≠ ⟨#[37]⟩) : relR s a t = relT s o 0 q1 (t ++ tx s a) := by
  subst e1
  unfold relR
  rw [h]
  simp only
  rw [if_neg h1]
theorem relT_yes {s : ByteArray} {o : Int} {b q qn : Nat} {t TK : ByteArray} {nt : Bool} (e1 : nx s q = qn) (hT : tx s q = TK) (h : TK = ⟨#[61]⟩ ∨ TK = ⟨#[33, 61]⟩) (hn : decide (TK = ⟨#[33, 61]⟩) = nt) :
    relT s o b q t = (match rngF s (s.size - qn + 1) qn [] (t ++ (⟨#[32]⟩ ++ TK ++ ⟨#[32]⟩)) with | .bad p => .bad p | .ok p l t' => .ok p ⟨o, b, nt, l⟩ t') := by
  subst hT e1 hn
  unfold relT rngR
  rw [if_pos h]
  cases rngF s (s.size - nx s q + 1) (nx s q) [] (t ++ (⟨#[32]⟩ ++ tx s q ++ ⟨#[32]⟩)) <;> rfl
theorem relT_no {s : ByteArray} {o : Int} {b q : Nat} {t TK : ByteArray} (hT : tx s q = TK) (h1 : TK ≠ ⟨#[61]⟩) (h2 : TK ≠ ⟨#[33, 61]⟩) : relT s o b q t = .bad q := by
  subst hT
  unfold relT
  rw [if_neg (fun g => g.elim h1 h2)]

theorem eql_func_nil (g : Nat) (lb : Array Value) (w : World) : (binOp .eql 126 (.func (.func g) #[] lb) .nilFunc).run Tryz.prog w = .ok (.bool false) w := by
  have h : ∀ d : Nat, (Op.equalIn (d + 1) 126 (.func (.func g) #[] lb) .nilFunc).run Tryz.prog w = .ok false w := fun d => by
    simp [Op.equalIn, run_underlying Tryz.underlying126]
  simp only [binOp]
  simp [Op.equal, Op.maxDepth, h 9999]
theorem eql_nil_nil (w : World) : (binOp .eql 126 .nilFunc .nilFunc).run Tryz.prog w = .ok (.bool true) w := by
  have h : ∀ d : Nat, (Op.equalIn (d + 1) 126 .nilFunc .nilFunc).run Tryz.prog w = .ok true w := fun d => by
    simp [Op.equalIn, run_underlying Tryz.underlying126]
  simp only [binOp]
  simp [Op.equal, Op.maxDepth, h 9999]

set_option maxRecDepth 100000 in
set_option maxHeartbeats 2000000 in
theorem relation_any (w0 : World) (sb bb : Nat) (s : ByteArray) (a : Nat) (t : ByteArray) (w : World) (hR : RS w0 w sb bb s a t [] (.slice none 0 0) [] w) (htz : t.size ≤ 3 * a) :
    Calls Tryz.prog 41 #[.pointer (some ⟨sb, 0, none⟩), .pointer (some ⟨bb, 0, none⟩)] w fun e w' => RelEnd w0 w sb bb s (relR s a t) e w' := by
  have has := hR.ain
  have hss := hR.sin
  have c2 := hR.sc.cell 2
  simp at c2
  cases ho : opOf (tx s a) with
  | none =>
    have hc := hR.operand_no ho
    have HRE := Lib.hid (relR_none (t := t) ho)
    clear ho
    go_enter Tryz.func41, Tryz.ntmps41
    refine wp_seq_k fun K1 hK1 => ?_
    have HK1 := Lib.hid hK1; clear hK1
    go_wp2_with fail
    refine HK1.out _ _ ?_
    refine wp_scope_jumps 0 (fun _ _ => False) (fun _ _ => 0) rfl ?_ (fun _ _ h => h.elim)
    go_wp2_with fail
    refine hc.mono ?_
    rintro e w1 ⟨rfl, hR1⟩
    have hR2 := hR1.new #[.nilFunc] 126 (by decide)
    have hnn := eql_nil_nil
    go_wp2_with fail
    simp only [Exit.jump]
    exact bodyPost_ret (v := .tuple #[.nilFunc, .bool false]) (by simp [results, Tryz.results41, go_sem]) rfl (.inl ⟨_, HRE.out, rfl, hR2.sc, hR2.bel, hR2.kp⟩)
  | some o =>
    have hc := hR.operand_yes ho
    have hio := opOf_is ho
    have hu := (opOf_low ho).1
    have hge := nx_ge (s := s) (a := a)
    rw [← tx_size has] at hge
    have HO := Lib.hid ho
    obtain ⟨U, hU⟩ : ∃ U, tx s a = U := ⟨_, rfl⟩
    obtain ⟨q1, hq1⟩ : ∃ q, nx s a = q := ⟨_, rfl⟩
    rw [hU] at hu hge hc c2
    rw [hq1] at hge
    have HU := Lib.hid hU
    have HQ1 := Lib.hid hq1
    have htu : (t ++ U).size = t.size + 1 := by rw [ByteArray.size_append, hu]
    have HTU := Lib.hid htu
    have hge : a + 1 ≤ q1 := by omega
    have HU1 := Lib.hid hu
    clear ho hU hq1 htu hu
    obtain ⟨g, hg⟩ : ∃ g, opFn o = g := ⟨_, rfl⟩
    rw [hg] at hc
    have HGF := Lib.hid hg
    clear hg
    obtain ⟨R, hRel⟩ : ∃ R, relR s a t = R := ⟨_, rfl⟩
    rw [hRel]
    have HREL := Lib.hid hRel
    clear hRel
    go_enter Tryz.func41, Tryz.ntmps41
    refine wp_seq_k fun K1 hK1 => ?_
    have HK1 := Lib.hid hK1; clear hK1
    go_wp2_with fail
    refine HK1.out _ _ ?_
    refine wp_scope_jumps 0 (RJ w0 w sb bb s R) (RM sb s) rfl ?_ ?_
    rotate_left
    · intro a' w' hK
      exact rl_pass2 _ rfl w0 w sb bb s R _ (fun a w' h => h) a' w' hK
    go_wp2_with fail
    refine hc.mono ?_
    rintro e w1 ⟨rfl, hR1⟩
    have hR2 := hR1.new #[.func (.func g) #[] #[]] 126 (by decide)
    have c2n := hR2.sc.cell 2
    rw [HU.out] at c2n
    simp at c2n
    clear c2
    have hnn := eql_func_nil g #[]
    have hw2 := hR2.write U (by have := HU1.out; omega)
    go_wp2_with fail
    refine hw2.mono ?_
    rintro e w3 ⟨rfl, hR3⟩
    have hn3 := hR3.next
    rw [HQ1.out] at hn3
    clear hw2 c2n hc
    go_wp2_with fail
    refine hn3.mono ?_
    rintro e w4 ⟨rfl, hR4⟩
    have hR5 := hR4.new #[.int .i64 0] 2 (by decide)
    have c5 := hR5.sc.cell 2
    simp at c5
    have hq1s := hR5.ain
    have hlt : w1.heap.size < w4.heap.size := lt_some (hR4.mem (w1.heap.size, #[.func (.func g) #[] #[]], 126) (by simp)).1
    clear hn3 hR hR1 hR2 hR3
    go_upto_if 34 with fail
    have HLT := Lib.hid hlt
    generalize hyb : w4.heap.size = yb at *
    generalize hab : w1.heap.size = ab at *
    generalize w4.alloc (.cells #[.int .i64 0] 2) = w5 at *
    clear hyb hab hR4
    go_cut [0] (fun s0 wx => s0 = .pointer (some ⟨sb, 0, none⟩) ∧ ∃ (b q : Nat) (txt : ByteArray), RS w0 w sb bb s q txt [(yb, #[.int .i64 b], 2), (ab, #[.func (.func g) #[] #[]], 126)] (.slice none 0 0) [] wx ∧ R = relT s o b q txt ∧ b < 1000000000 ∧ txt.size ≤ 3 * q)
    case first =>
      by_cases h37 : tx s q1 = ⟨#[37]⟩
      · have b37 := tl_yes (l := [37]) h37
        have H37 := Lib.hid h37
        have hge2 : q1 + 1 ≤ nx s q1 := by have := nx_ge (s := s) (a := q1); have := cm_size h37 hq1s; omega
        have hn5 := hR5.next
        obtain ⟨q2, hq2⟩ : ∃ q, nx s q1 = q := ⟨_, rfl⟩
        rw [hq2] at hge2 hn5
        have HQ2 := Lib.hid hq2
        clear h37 hq2
        rw [b37]
        go_wp2_with fail
        refine hn5.mono ?_
        rintro e w6 ⟨rfl, hR6⟩
        have hq2s := hR6.ain
        cases hm : numOf (tx s q2) with
        | none =>
          have hc6 := hR6.number_no hm
          have HRE := Lib.hid (HREL.out.symm.trans (relR_bad (t := t) HQ1.out HQ2.out HO.out H37.out hm))
          clear hm
          go_wp2_with fail
          refine hc6.mono ?_
          rintro e w7 ⟨rfl, hR7⟩
          go_wp2_with fail
          simp only [Exit.jump]
          exact bodyPost_ret (v := .tuple #[.nilFunc, .bool false]) (by simp [results, Tryz.results41, go_sem]) rfl (.inl ⟨_, HRE.out, rfl, hR7.sc, hR7.bel, hR7.kp⟩)
        | some n =>
          have hc6 := hR6.number_yes hm
          obtain ⟨hdg, hnv⟩ := numOf_val hm
          have hge3 := nx_ge (s := s) (a := q2)
          rw [← tx_size hq2s] at hge3
          obtain ⟨V, hV⟩ : ∃ V, tx s q2 = V := ⟨_, rfl⟩
          obtain ⟨q3, hq3⟩ : ∃ q, nx s q2 = q := ⟨_, rfl⟩
          have hre := HREL.out.symm.trans (relR_by (t := t) HQ1.out HQ2.out hq3 HO.out H37.out hm)
          rw [hV, HU.out] at hre
          have HRE := Lib.hid hre
          rw [hV] at hdg hge3
          rw [hq3] at hge3 hc6
          clear hm hV hq3 hre
          go_wp2_with fail
          refine hc6.mono ?_
          rintro e w7 ⟨rfl, hR7⟩
          have hy := hR7.blk (b := yb) (cs := #[.int .i64 0]) (T := 2) (by simp)
          have y0 := hy.cell 0
          have yf := hy.free 0
          simp at y0
          have hq3s := hR7.ain
          have hR8 := hR7.set yb 0 (.int .i64 n) #[.int .i64 0] 2 [(yb, #[.int .i64 (n : Int)], 2), (ab, #[.func (.func g) #[] #[]], 126)] (by simp) (by simp [Value.ownBlock]) (fun x hx => by
            simp only [List.mem_cons, List.not_mem_nil, or_false] at hx
            rcases hx with rfl | rfl
            · exact .inl rfl
            · exact .inr ⟨by simp, by simp only; have := HLT.out; omega⟩)
          have hf8 := hR8.format (n := n) (by omega)
          rw [hdg] at hf8
          have hcz : ¬ 9223372036854775807 < 3 + V.size := by omega
          go_wp2_with fail
          refine hf8.mono ?_
          rintro e w9 ⟨rfl, hR9⟩
          have hszp : (t ++ U ++ (⟨#[32, 37, 32]⟩ ++ V)).size = t.size + 1 + (3 + V.size) := by rw [ByteArray.size_append, pc_app, HTU.out]
          have hszq : (t ++ U).size + ((⟨#[32, 37, 32]⟩ : ByteArray) ++ V).size ≤ 100000000 := by rw [HTU.out, pc_app]; omega
          have hw9 := hR9.write _ hszq
          have HSP := Lib.hid hszp
          clear hszp hszq
          go_wp2_with fail
          refine hw9.mono ?_
          rintro e w10 ⟨rfl, hR10⟩
          go_wp2_with fail
          go_meet
          case rel => exact ⟨rfl, n, q3, _, hR10, HRE.out, hnv, by rw [HSP.out]; omega⟩
      · have b37 := tl_no (l := [37]) h37
        have hre := HREL.out.symm.trans (relR_no (t := t) HQ1.out HO.out h37)
        rw [HU.out] at hre
        have HRE := Lib.hid hre
        clear h37 hre
        rw [b37]
        go_wp2_with fail
        go_meet
        case rel => exact ⟨rfl, 0, q1, _, hR5, HRE.out, by decide, by rw [HTU.out]; omega⟩
    case rest =>
      obtain ⟨rfl, b, q, txt, hRc, hRr, hb, hz⟩ := hcut
      have HRR := Lib.hid hRr
      clear hRr hR5 c5
      have hqs := hRc.ain
      have hge := nx_ge (s := s) (a := q)
      rw [← tx_size hqs] at hge
      obtain ⟨TK, hTK⟩ : ∃ TK, tx s q = TK := ⟨_, rfl⟩
      obtain ⟨qn, hqn⟩ : ∃ qn, nx s q = qn := ⟨_, rfl⟩
      have HTK := Lib.hid hTK
      have HQN := Lib.hid hqn
      rw [hTK, hqn] at hge
      clear hqn
      by_cases hs1 : TK = ⟨#[33, 61]⟩
      · have b1 := tl_yes (l := [33, 61]) hs1
        have hz2 : 2 ≤ TK.size := by rw [hs1]; exact Nat.le_refl 2
        have hz3 : TK.size ≤ 2 := by rw [hs1]; exact Nat.le_refl 2
        have HRE := Lib.hid (HRR.out.trans (relT_yes (b := b) (t := txt) HQN.out HTK.out (.inr hs1) (decide_eq_true hs1)))
        have cc := hRc.sc.cell 2
        have hRn := hRc.new #[.bool true] 4 (by decide)
        have cn := hRn.sc.cell 2
        rw [hTK] at cc cn
        simp at cc cn
        have hcz1 : ¬ 9223372036854775807 < 1 + TK.size := by omega
        have hcz2 : ¬ 9223372036854775807 < 1 + TK.size + 1 := by omega
        have hszp : (txt ++ (⟨#[32]⟩ ++ TK ++ ⟨#[32]⟩)).size = txt.size + (1 + TK.size + 1) := by rw [ByteArray.size_append, bl_app]
        have hszq : txt.size + ((⟨#[32]⟩ : ByteArray) ++ TK ++ ⟨#[32]⟩).size ≤ 100000000 := by rw [bl_app]; omega
        have hwr := hRn.write _ hszq
        have HSP := Lib.hid hszp
        have hkn := lt_some (hRc.mem (yb, #[.int .i64 b], 2) (by simp)).1
        simp only at hkn
        generalize hnb : wc.heap.size = nb at *
        clear hszp hszq hs1 hTK hRc
        go_wp2_with fail
        refine hwr.mono ?_
        rintro e w8 ⟨rfl, hR8⟩
        have hn8 := hR8.next
        rw [HQN.out] at hn8
        clear hwr cc cn
        go_wp2_with fail
        refine hn8.mono ?_
        rintro e w9 ⟨rfl, hR9⟩
        have hR10 := hR9.new #[.slice none 0 0] 129 (by decide)
        have hkl := lt_some (hR9.mem (nb, #[.bool true], 4) (by simp)).1
        simp only at hkl
        have hqns := hR9.ain
        go_wp2_with fail
        refine wp_label ?_
        rename_i K1 hK1
        refine hK1 _ _ (rl_fall _ rfl w0 w sb bb s R _ (fun a w' h => h) _ _ ?_)
        refine ⟨qn, _, .slice none 0 0, [], s.size - qn + 1, ab, yb, nb, w9.heap.size, o, b, true, rfl, rfl, rfl, rfl, rfl, rfl, rfl, rfl, ?_, HLT.out, hkn, hkl, hio, hb, by simp, Nat.zero_le _, by rw [HSP.out]; omega, by omega, HRE.out⟩
        refine hR10.weak fun x hx => ?_
        simp only [own4, HGF.out, List.mem_cons, List.not_mem_nil, or_false] at hx ⊢
        rcases hx with rfl | rfl | rfl | rfl
        · exact .inr (.inr (.inr rfl))
        · exact .inr (.inr (.inl rfl))
        · exact .inr (.inl rfl)
        · exact .inl rfl
      · have b1 := tl_no (l := [33, 61]) hs1
        by_cases hs2 : TK = ⟨#[61]⟩
        · have b2 := tl_yes (l := [61]) hs2
          have hz2 : 1 ≤ TK.size := by rw [hs2]; exact Nat.le_refl 1
          have hz3 : TK.size ≤ 2 := by rw [hs2]; decide
          have HRE := Lib.hid (HRR.out.trans (relT_yes (b := b) (t := txt) HQN.out HTK.out (.inl hs2) (decide_eq_false hs1)))
          have cc := hRc.sc.cell 2
          have hRn := hRc.new #[.bool false] 4 (by decide)
          have cn := hRn.sc.cell 2
          rw [hTK] at cc cn
          simp at cc cn
          have hcz1 : ¬ 9223372036854775807 < 1 + TK.size := by omega
          have hcz2 : ¬ 9223372036854775807 < 1 + TK.size + 1 := by omega
          have hszp : (txt ++ (⟨#[32]⟩ ++ TK ++ ⟨#[32]⟩)).size = txt.size + (1 + TK.size + 1) := by rw [ByteArray.size_append, bl_app]
          have hszq : txt.size + ((⟨#[32]⟩ : ByteArray) ++ TK ++ ⟨#[32]⟩).size ≤ 100000000 := by rw [bl_app]; omega
          have hwr := hRn.write _ hszq
          have HSP := Lib.hid hszp
          have hkn := lt_some (hRc.mem (yb, #[.int .i64 b], 2) (by simp)).1
          simp only at hkn
          generalize hnb : wc.heap.size = nb at *
          clear hszp hszq hs1 hs2 hTK hRc
          go_wp2_with fail
          refine hwr.mono ?_
          rintro e w8 ⟨rfl, hR8⟩
          have hn8 := hR8.next
          rw [HQN.out] at hn8
          clear hwr cc cn
          go_wp2_with fail
          refine hn8.mono ?_
          rintro e w9 ⟨rfl, hR9⟩
          have hR10 := hR9.new #[.slice none 0 0] 129 (by decide)
          have hkl := lt_some (hR9.mem (nb, #[.bool false], 4) (by simp)).1
          simp only at hkl
          have hqns := hR9.ain
          go_wp2_with fail
          refine wp_label ?_
          rename_i K1 hK1
          refine hK1 _ _ (rl_fall _ rfl w0 w sb bb s R _ (fun a w' h => h) _ _ ?_)
          refine ⟨qn, _, .slice none 0 0, [], s.size - qn + 1, ab, yb, nb, w9.heap.size, o, b, false, rfl, rfl, rfl, rfl, rfl, rfl, rfl, rfl, ?_, HLT.out, hkn, hkl, hio, hb, by simp, Nat.zero_le _, by rw [HSP.out]; omega, by omega, HRE.out⟩
          refine hR10.weak fun x hx => ?_
          simp only [own4, HGF.out, List.mem_cons, List.not_mem_nil, or_false] at hx ⊢
          rcases hx with rfl | rfl | rfl | rfl
          · exact .inr (.inr (.inr rfl))
          · exact .inr (.inr (.inl rfl))
          · exact .inr (.inl rfl)
          · exact .inl rfl
        · have b2 := tl_no (l := [61]) hs2
          have HRE := Lib.hid (HRR.out.trans (relT_no (b := b) (t := txt) HTK.out hs2 hs1))
          have cc := hRc.sc.cell 2
          have hRn := hRc.new #[.bool false] 4 (by decide)
          have cn := hRn.sc.cell 2
          rw [hTK] at cc cn
          simp at cc cn
          clear hs1 hs2 hTK hRc
          go_wp2_with fail
          simp only [Exit.jump]
          exact bodyPost_ret (v := .tuple #[.nilFunc, .bool false]) (by simp [results, Tryz.results41, go_sem]) rfl (.inl ⟨_, HRE.out, rfl, hRn.sc, hRn.bel, hRn.kp⟩)
end Go.Proofs.YtgbemhehbhlgpaaGreatDoor
