/-
  Rules for numbers, the document's answer: does a rule hold? What relations that were read may be.
-/
import Derived.Test.YtgbemhehbhlgpaaGreatDoorPlRh
namespace Go.Proofs.YtgbemhehbhlgpaaGreatDoor
open Go.RowKit Go.PlainAid

/-- What is known of a relation that was read. -/
def OkR (r : Rl) : Prop := (r.op = 110 ∨ r.op = 105 ∨ r.op = 102 ∨ r.op = 116 ∨ r.op = 118 ∨ r.op = 119) ∧ r.by_ < 1000000000 ∧ (∀ y ∈ r.rs, y.1 < 1000000000 ∧ y.2 < 1000000000) ∧ r.rs.length ≤ 10000
theorem rngF_ok {s : ByteArray} : ∀ (f a : Nat) (l : List (Nat × Nat)) (t : ByteArray) (p : Nat) (l' : List (Nat × Nat)) (t' : ByteArray), rngF s f a l t = .ok p l' t' → (∀ y ∈ l, y.1 < 1000000000 ∧ y.2 < 1000000000) → (∀ y ∈ l', y.1 < 1000000000 ∧ y.2 < 1000000000) ∧ l'.length ≤ l.length + f
  | 0, a, l, t, p, l', t', h, _ => by simp [rngF] at h
  | f + 1, a, l, t, p, l', t', h, hl => by
    have hpush : ∀ n m, n < 1000000000 → m < 1000000000 → ∀ y ∈ l ++ [(n, m)], y.1 < 1000000000 ∧ y.2 < 1000000000 := fun n m hn hm y hy => by
      rcases List.mem_append.1 hy with h | h
      · exact hl y h
      · rw [List.mem_singleton.1 h]; exact ⟨hn, hm⟩
    have hlen : ∀ x : Nat × Nat, (l ++ [x]).length = l.length + 1 := fun x => by rw [List.length_append]; rfl
    simp only [rngF] at h
    cases hn : numOf (tx s a) with
    | none => rw [hn] at h; simp at h
    | some n =>
      rw [hn] at h
      simp only at h
      have hn9 := (numOf_val hn).2
      split at h
      · cases hm : numOf (tx s (nx s (nx s a))) with
        | none => rw [hm] at h; simp at h
        | some m =>
          rw [hm] at h
          simp only at h
          have hm9 := (numOf_val hm).2
          split at h
          · have ih := rngF_ok f _ _ _ _ _ _ h (hpush n m hn9 hm9)
            rw [hlen] at ih
            exact ⟨ih.1, by omega⟩
          · injection h with _ h2 _
            rw [← h2, hlen]
            exact ⟨hpush n m hn9 hm9, by omega⟩
      · split at h
        · have ih := rngF_ok f _ _ _ _ _ _ h (hpush n n hn9 hn9)
          rw [hlen] at ih
          exact ⟨ih.1, by omega⟩
        · injection h with _ h2 _
          rw [← h2, hlen]
          exact ⟨hpush n n hn9 hn9, by omega⟩
theorem relT_ok {s : ByteArray} {o : Int} {b a : Nat} {t : ByteArray} {p : Nat} {r : Rl} {t' : ByteArray} (h : relT s o b a t = .ok p r t') (hs : s.size ≤ 4096) (ho : o = 110 ∨ o = 105 ∨ o = 102 ∨ o = 116 ∨ o = 118 ∨ o = 119) (hb : b < 1000000000) : OkR r := by
  unfold relT at h
  split at h
  · cases hR : rngR s (nx s a) [] (t ++ (⟨#[32]⟩ ++ tx s a ++ ⟨#[32]⟩)) with
    | bad q => rw [hR] at h; simp at h
    | ok q l t2 =>
      rw [hR] at h
      simp only at h
      injection h with _ h2 _
      unfold rngR at hR
      have h3 := rngF_ok _ _ _ _ _ _ _ hR (fun y hy => absurd hy (by simp))
      rw [← h2]
      exact ⟨ho, hb, h3.1, by have := h3.2; simp at this; show l.length ≤ 10000; omega⟩
  · cases h
theorem relR_ok {s : ByteArray} {a : Nat} {t : ByteArray} {p : Nat} {r : Rl} {t' : ByteArray} (h : relR s a t = .ok p r t') (hs : s.size ≤ 4096) : OkR r := by
  unfold relR at h
  cases ho : opOf (tx s a) with
  | none => rw [ho] at h; simp at h
  | some o =>
    rw [ho] at h
    simp only at h
    have hoo : o = 110 ∨ o = 105 ∨ o = 102 ∨ o = 116 ∨ o = 118 ∨ o = 119 := by
      obtain ⟨_, h2, c, h3, h4⟩ := op_parts ho
      rw [h3] at h2
      rcases h4 with rfl | rfl | rfl | rfl | rfl | rfl
      · exact .inl h2.symm
      · exact .inr (.inl h2.symm)
      · exact .inr (.inr (.inl h2.symm))
      · exact .inr (.inr (.inr (.inl h2.symm)))
      · exact .inr (.inr (.inr (.inr (.inl h2.symm))))
      · exact .inr (.inr (.inr (.inr (.inr h2.symm))))
    split at h
    · cases hn : numOf (tx s (nx s (nx s a))) with
      | none => rw [hn] at h; simp at h
      | some n =>
        rw [hn] at h
        simp only at h
        exact relT_ok h hs hoo (numOf_val hn).2
    · exact relT_ok h hs hoo (by decide)
/-- Rows of relations that may be. -/
def OkA (rows : List (List Rl)) (B : Nat) : Prop := (∀ rs ∈ rows, (∀ r ∈ rs, OkR r) ∧ rs.length ≤ B) ∧ rows.length ≤ B
theorem OkA.put {rows : List (List Rl)} {B : Nat} {j : ByteArray} {r : Rl} (h : OkA rows B) (hr : OkR r) : OkA (stp rows (j, r)) (B + 1) := by
  have key : ∀ R : List (List Rl), (∀ rs ∈ R, (∀ r ∈ rs, OkR r) ∧ rs.length ≤ B) → R.length ≤ B + 1 → OkA (putRow R r) (B + 1) := fun R hR hl => by
    unfold putRow
    constructor
    · intro rs hrs
      rcases List.mem_append.1 hrs with h | h
      · have h1 := hR rs (List.dropLast_subset _ h)
        exact ⟨h1.1, by omega⟩
      · rw [List.mem_singleton.1 h]
        cases R with
        | nil => exact ⟨fun x hx => by
            have hx : x ∈ [r] := by simpa using hx
            rw [List.mem_singleton.1 hx]
            exact hr, by simp⟩
        | cons a R =>
          have h1 : (a :: R).getLastD [] = (a :: R).getLast (by simp) := by simp [List.getLastD_eq_getLast?, List.getLast?_eq_some_getLast]
          rw [h1]
          have h2 := hR _ (List.getLast_mem (l := a :: R) (by simp))
          refine ⟨fun x hx => ?_, by rw [List.length_append]; show _ + 1 ≤ _; omega⟩
          rcases List.mem_append.1 hx with hx | hx
          · exact h2.1 x hx
          · rw [List.mem_singleton.1 hx]; exact hr
    · rw [List.length_append, List.length_dropLast]
      show R.length - 1 + 1 ≤ B + 1
      cases R with
      | nil => simp
      | cons a R => simp at hl ⊢; omega
  show OkA (putRow (if j = orB then rows ++ [[]] else rows) r) (B + 1)
  split
  · refine key _ (fun rs hrs => ?_) (by rw [List.length_append]; have := h.2; show _ + 1 ≤ _; omega)
    rcases List.mem_append.1 hrs with g | g
    · exact h.1 rs g
    · rw [List.mem_singleton.1 g]
      exact ⟨fun x hx => absurd hx (by simp), Nat.zero_le _⟩
  · exact key _ h.1 (by have := h.2; omega)
theorem ruleF_ok {s : ByteArray} (hs : s.size ≤ 4096) : ∀ (f a : Nat) (any : List (List Rl)) (t j : ByteArray) (p : Nat) (rows : List (List Rl)) (t' : ByteArray) (B : Nat), ruleF s f a any t j = .ok p rows t' → OkA any B → OkA rows (B + f)
  | 0, a, any, t, j, p, rows, t', B, h, _ => by simp [ruleF] at h
  | f + 1, a, any, t, j, p, rows, t', B, h, hA => by
    cases hr : relR s a (jointT t j) with
    | bad q => simp [ruleF, hr] at h
    | ok q r t1 =>
      rw [ruleF_go hr] at h
      have hP := hA.put (j := j) (relR_ok hr hs)
      unfold goOn at h
      split at h
      · have ih := ruleF_ok hs f _ _ _ _ _ _ _ (B + 1) h hP
        rw [show B + (f + 1) = B + 1 + f by omega]
        exact ih
      · split at h
        · injection h with _ h2 _
          rw [← h2]
          exact ⟨fun rs hrs => ⟨(hP.1 rs hrs).1, by have := (hP.1 rs hrs).2; omega⟩, by have := hP.2; omega⟩
        · cases h
theorem ruleP_ok {s : ByteArray} (hs : s.size ≤ 4096) {p : Nat} {rows : List (List Rl)} {t : ByteArray} (h : ruleP s = .ok p rows t) : OkA rows 10000 := by
  unfold ruleP at h
  split at h
  · injection h with _ h2 _
    rw [← h2]
    exact ⟨fun rs hrs => by rw [List.mem_singleton.1 hrs]; exact ⟨fun x hx => absurd hx (by simp), Nat.zero_le _⟩, by decide⟩
  · have h1 := ruleF_ok hs _ _ _ _ _ _ _ _ 0 h ⟨fun rs hrs => absurd hrs (by simp), Nat.le_refl _⟩
    exact ⟨fun rs hrs => ⟨(h1.1 rs hrs).1, by have := (h1.1 rs hrs).2; omega⟩, by have := h1.2; omega⟩

/-- Two blocks, a cell and five cells, as they are. -/
def HJ (w0 : World) (b0 : Nat) (c0 : Array Value) (b1 : Nat) (c1 : Array Value) (p : Addr) (v : Value) (g o : Nat) (u0 u1 u2 u3 u4 : Value) (W : World) : Prop :=
  Blk W b0 c0 ∧ Blk W b1 c1 ∧ W.cell? p = some v ∧ W.cell? ⟨g, o, none⟩ = some u0 ∧ W.cell? ⟨g, o + 1, none⟩ = some u1 ∧ W.cell? ⟨g, o + 2, none⟩ = some u2 ∧ W.cell? ⟨g, o + 3, none⟩ = some u3 ∧ W.cell? ⟨g, o + 4, none⟩ = some u4 ∧ Below w0.heap.size w0 W
section
variable {w0 : World} {b0 : Nat} {c0 : Array Value} {b1 : Nat} {c1 : Array Value} {p : Addr} {v : Value} {g o : Nat} {u0 u1 u2 u3 u4 : Value} {W : World}
theorem cell_kept {W W' : World} {a : Addr} {u : Value} (h : W.cell? a = some u) (hB : Below W.heap.size W W') : W'.cell? a = some u := (hB.cell (p := a) (World.block_lt_of_cell? W a h)).trans h
theorem HJ.on (h : HJ w0 b0 c0 b1 c1 p v g o u0 u1 u2 u3 u4 W) {W' : World} (hB : Below W.heap.size W W') : HJ w0 b0 c0 b1 c1 p v g o u0 u1 u2 u3 u4 W' := by
  obtain ⟨h1, h2, h3, h4, h5, h6, h7, h8, h9⟩ := h
  exact ⟨h1.on hB, h2.on hB, cell_kept h3 hB, cell_kept h4 hB, cell_kept h5 hB, cell_kept h6 hB, cell_kept h7 hB, cell_kept h8 hB, h9.trans (hB.mono h9.size)⟩
theorem HJ.drew (h : HJ w0 b0 c0 b1 c1 p v g o u0 u1 u2 u3 u4 W) : HJ w0 b0 c0 b1 c1 p v g o u0 u1 u2 u3 u4 W.drew := h.on (Below.refl _ _).drew
theorem HJ.lims (h : HJ w0 b0 c0 b1 c1 p v g o u0 u1 u2 u3 u4 W) : (∀ o, W.cell? ⟨b0, o, none⟩ = c0[o]?) ∧ (∀ o, W.cell? ⟨b1, o, none⟩ = c1[o]?) ∧ W.cell? p = some v ∧ (W.cell? ⟨g, o, none⟩ = some u0 ∧ W.cell? ⟨g, o + 1, none⟩ = some u1 ∧ W.cell? ⟨g, o + 2, none⟩ = some u2 ∧ W.cell? ⟨g, o + 3, none⟩ = some u3 ∧ W.cell? ⟨g, o + 4, none⟩ = some u4) ∧ Below w0.heap.size w0 W := by
  obtain ⟨h1, h2, h3, h4, h5, h6, h7, h8, h9⟩ := h
  exact ⟨h1.cell, h2.cell, h3, ⟨h4, h5, h6, h7, h8⟩, h9⟩
theorem hj_call {P : Program} {f : FuncId} {args : Array Value} {x : Value} (h : Calls P f args W fun e w' => e = .returned x ∧ Below W.heap.size W w') (hS : HJ w0 b0 c0 b1 c1 p v g o u0 u1 u2 u3 u4 W) :
    Calls P f args W fun e w' => e = .returned x ∧ HJ w0 b0 c0 b1 c1 p v g o u0 u1 u2 u3 u4 w' := h.mono fun _ _ ⟨e, hB⟩ => ⟨e, hS.on hB⟩
end
theorem all_step {p : Rl → Bool} {rs : List Rl} {m : Nat} (hm : m < rs.length) : (rs.take (m + 1)).all p = ((rs.take m).all p && p rs[m]) := by
  rw [List.take_add_one, List.getElem?_eq_getElem hm, List.all_append]
  simp

set_option maxRecDepth 100000 in
set_option maxHeartbeats 8000000 in
theorem rRuleH_any {neg : Bool} {ds : ByteArray} {k : Nat} (hr : rightB neg ds k = true) (a : Option Addr) (n c : Nat) (t : ByteArray) (bad : Int) (rows : List (List Rl)) (w : World) (hA : AnyA w (.slice a n c) rows) (hok : OkA rows 10000) :
    Calls Tryz.prog 27 #[.agg #[.slice a n c, .string t, .int .i64 bad], .agg #[.bool neg, .string ds, .int .i64 k]] w fun e w' => e = .returned (.bool (rowsH ds k rows)) ∧ Below w.heap.size w w' := by
  have hA1 := (Below.refl w.heap.size w).alloc (Nat.le_refl _) (.cells #[.slice a n c, .string t, .int .i64 bad] 51)
  have kr := Blk.new w #[.slice a n c, .string t, .int .i64 bad] 51
  generalize hw1 : w.alloc (.cells #[.slice a n c, .string t, .int .i64 bad] 51) = w1 at *
  have z1 : w1.heap.size = w.heap.size + 1 := by rw [← hw1]; simp
  have HW1 := Lib.hid hw1
  have hA2' := (Below.refl w1.heap.size w1).alloc (Nat.le_refl _) (.cells #[.bool neg, .string ds, .int .i64 k] 23)
  have hA2 := hA1.trans (hA2'.mono hA1.size)
  have kd := Blk.new w1 #[.bool neg, .string ds, .int .i64 k] 23
  rw [z1] at kd
  have kr2 := kr.on hA2'
  generalize hw2 : w1.alloc (.cells #[.bool neg, .string ds, .int .i64 k] 23) = w2 at *
  have HW2 := Lib.hid hw2
  obtain ⟨ys, hav, hyl, hyr⟩ := hA.on hA2
  have hn : n = rows.length := by
    obtain ⟨_, _, hv, _⟩ := hav
    injection hv with _ h _
    rw [h, hyl]
  have HR := Lib.hid hr; have HOK := Lib.hid hok; have HAV := Lib.hid hav; have HYL := Lib.hid hyl; have HYR := Lib.hid hyr; have HNN := Lib.hid hn
  have hn4 : n ≤ 10000 := by have := hok.2; omega
  have KR := Lib.hid kr2; have KD := Lib.hid kd
  clear hr hok hav hyl hyr hn hA hA1 hA2' kr kd kr2 hw1 hw2
  go_enter Tryz.func27, Tryz.ntmps27
  go_upto_region 1 with fail
  rw [HW1.out, HW2.out]
  go_wp2_with fail
  go_loopg [5] (n + 1) (fun f s5 wx => ∃ i : Nat, s5 = .int .i64 (i : Int) ∧ f + i = n + 1 ∧ i ≤ n ∧ (∀ j (hj : j < rows.length), j < i → rows[j].all (rlH ds k) = false) ∧ Below w2.heap.size w2 wx)
  case atStart => exact ⟨0, rfl, rfl, Nat.zero_le _, fun j _ hj => absurd hj (Nat.not_lt_zero j), Below.refl _ _⟩
  case round =>
    obtain ⟨i, rfl, hg, hi, hno, hBr⟩ := hrel
    have kr := KR.out.on hBr
    have kd := KD.out.on hBr
    have hBR := hA2.trans (hBr.mono hA2.size)
    have HG := Lib.hid hg; have HI := Lib.hid hi; have HNO := Lib.hid hno
    have hi0 : (0 : Int) ≤ i := by omega
    have f1 : IntKind.i64.wrap ((i : Int) + 1) = (i : Int) + 1 := IntWalk.i64_in _ (by omega)
    by_cases hlt : i < n
    · have hli : i < rows.length := by have := HNN.out; omega
      have hliy : i < ys.length := by have := HYL.out; omega
      obtain ⟨a', cap', hv, hcell⟩ := HAV.out
      obtain ⟨ag, ao, ha, hag, hac⟩ := hcell i hliy
      injection hv with hv1 hv2 hv3
      have ha : a = some ⟨ag, ao, none⟩ := hv1.trans ha
      subst ha
      have hac := hac 0 (by decide)
      obtain ⟨zs, hzv, hzl, hzr⟩ := HYR.out i hliy hli
      obtain ⟨y, hy⟩ : ∃ y, ys[i] = y := ⟨_, rfl⟩
      rw [hy] at hzv hac
      obtain ⟨ya, yn, yc⟩ := y
      simp only at hzv
      have hac : w2.cell? ⟨ag, ao + i, none⟩ = some (.slice ya yn yc) := by
        have e : RrE.sz = 1 := rfl
        rw [e, Nat.mul_one, Nat.add_zero] at hac
        exact hac
      have hacr := cell_kept hac hBr
      obtain ⟨rs, hrs⟩ : ∃ rs, rows[i] = rs := ⟨_, rfl⟩
      have hrk := HOK.out.1 rs (by rw [← hrs]; exact List.getElem_mem hli)
      have hyn : yn = rs.length := by
        obtain ⟨_, _, hv, _⟩ := hzv
        injection hv with _ h _
        have h : yn = zs.length := h
        rw [h, hzl, hrs]
      have hyn4 : yn ≤ 10000 := by have := hrk.2; omega
      have HLT := Lib.hid hlt; have HRS := Lib.hid hrs; have HRK := Lib.hid hrk; have HYN := Lib.hid hyn; have HZV := Lib.hid hzv; have HZL := Lib.hid hzl; have HZR := Lib.hid hzr; have HLI := Lib.hid hli
      have hiI : (i : Int) < n := by omega
      have HKR := Lib.hid kr; have HKD := Lib.hid kd; have HACR := Lib.hid hacr
      have rc := kr.cell
      clear hv1 hv2 hv3 hcell hag hac hzv hzl hzr hy hrs hrk hyn hlt hno hg hi kr kd
      go_wp2_with fail
      go_loopg [6, 7] (yn + 1) (fun f s6 s7 wx => ∃ m : Nat, s6 = .bool ((rs.take m).all (rlH ds k)) ∧ s7 = .int .i64 (m : Int) ∧ f + m = yn + 1 ∧ m ≤ yn ∧ Below wr.heap.size wr wx)
      case atStart => exact ⟨0, rfl, rfl, rfl, Nat.zero_le _, Below.refl _ _⟩
      case round =>
        obtain ⟨m, rfl, rfl, hg, hm, hBm⟩ := hrel
        have hBM := hBR.trans (hBm.mono hBR.size)
        have hBr2 := hBr.trans (hBm.mono hBr.size)
        have kr := HKR.out.on hBm
        have kd := HKD.out.on hBm
        have hac := cell_kept HACR.out hBm
        have HGM := Lib.hid hg; have HM := Lib.hid hm
        have hm0 : (0 : Int) ≤ m := by omega
        have f2 : IntKind.i64.wrap ((m : Int) + 1) = (m : Int) + 1 := IntWalk.i64_in _ (by omega)
        by_cases hml : m < yn
        · have hmr : m < rs.length := by have := HYN.out; omega
          have hmz : m < zs.length := by rw [HZL.out, HRS.out]; exact hmr
          obtain ⟨za', zcap, hzv, hzc⟩ := HZV.out
          obtain ⟨gz, oz, hza, hgz, hcells⟩ := hzc m hmz
          injection hzv with hz1 hz2 hz3
          have hza : ya = some ⟨gz, oz, none⟩ := hz1.trans hza
          subst hza
          have hrel := HZR.out m hmz (by rw [HRS.out]; exact hmr)
          obtain ⟨z, hz⟩ : ∃ z, zs[m] = z := ⟨_, rfl⟩
          obtain ⟨r, hrr⟩ : ∃ r, rs[m] = r := ⟨_, rfl⟩
          have hri : (rows[i]'HLI.out)[m]'(by rw [HRS.out]; exact hmr) = r := by
            rw [← hrr]
            simp only [HRS.out]
          rw [hz] at hcells hrel
          rw [hri] at hrel
          obtain ⟨zo, zb, zn, ⟨fa, fn, fc⟩, ⟨ta, tn, tc⟩⟩ := z
          obtain ⟨h1, h2, h3, hf, ht⟩ := hrel
          simp only at h1 h2 h3 hf ht
          subst h1 h2 h3
          have hOK := HRK.out.1 r (by rw [← hrr]; exact List.getElem_mem hmr)
          have hcj : ∀ j (_ : j < 5), wr.cell? ⟨gz, oz + m * 5 + j, none⟩ = (RlE.enc (r.op, r.by_, r.nt, (fa, fn, fc), (ta, tn, tc)))[j]? := fun j hj => by
            have h := hcells j hj
            have e : RlE.sz = 5 := rfl
            rw [e, ← Nat.add_assoc] at h
            exact (hBr2.cell (p := ⟨gz, oz + m * 5 + j, none⟩) hgz).trans h
          have q0 := hcj 0 (by decide); have q1 := hcj 1 (by decide); have q2 := hcj 2 (by decide); have q3 := hcj 3 (by decide); have q4 := hcj 4 (by decide)
          have hS : HJ wr _ _ _ _ _ _ gz (oz + m * 5) (.int .u8 r.op) (.int .i64 (r.by_ : Int)) (.bool r.nt) (.slice fa fn fc) (.slice ta tn tc) wr := ⟨kr, kd, hac, q0, q1, q2, q3, q4, Below.refl _ _⟩
          have hrel : ∀ W, Below wr.heap.size wr W → Calls Tryz.prog 48 #[.agg #[.int .u8 r.op, .int .i64 (r.by_ : Int), .bool r.nt, .slice fa fn fc, .slice ta tn tc], .agg #[.bool neg, .string ds, .int .i64 k]] W fun e w' => e = .returned (.bool (rlH ds k r)) ∧ Below W.heap.size W w' :=
            fun W hW => rRelH_any HR.out fa fn fc ta tn tc r W (hf.on (hBr2.trans (hW.mono hBr2.size))) (ht.on (hBr2.trans (hW.mono hBr2.size))) hOK.1 hOK.2.1 hOK.2.2.1 hOK.2.2.2
          have hstep : (rs.take (m + 1)).all (rlH ds k) = ((rs.take m).all (rlH ds k) && rlH ds k r) := by rw [all_step hmr, hrr]
          have HST := Lib.hid hstep
          have hmI : (m : Int) < yn := by omega
          have HML := Lib.hid hml
          have rc := hS.lims.1
          have ha5 := hS.lims.2.2.1
          generalize rlH ds k r = RB at *
          obtain ⟨AB, hAB⟩ : ∃ b, (rs.take m).all (rlH ds k) = b := ⟨_, rfl⟩
          rw [hAB] at hstep
          have HAB := Lib.hid hAB
          rw [hAB]
          clear hz1 hz2 hz3 hzc hcells hcj q0 q1 q2 q3 q4 hz hrr hri hOK hf ht hgz hstep hml hg hm kr kd hac hAB
          cases AB with
          | true =>
            go_upto_region 8 with fail
            clear rc ha5
            refine wp_region_held_drew (S := fun w' => (∀ o, w'.cell? ⟨w.heap.size, o, none⟩ = #[Value.slice (some ⟨ag, ao, none⟩) n c, Value.string t, Value.int .i64 bad][o]?) ∧ (∀ o, w'.cell? ⟨w.heap.size + 1, o, none⟩ = #[Value.bool neg, Value.string ds, Value.int .i64 (k : Int)][o]?) ∧ w'.cell? ⟨ag, ao + i, none⟩ = some (Value.slice (some ⟨gz, oz, none⟩) yn yc) ∧ (w'.cell? ⟨gz, oz + m * 5, none⟩ = some (Value.int .u8 r.op) ∧ w'.cell? ⟨gz, oz + m * 5 + 1, none⟩ = some (Value.int .i64 (r.by_ : Int)) ∧ w'.cell? ⟨gz, oz + m * 5 + 2, none⟩ = some (Value.bool r.nt) ∧ w'.cell? ⟨gz, oz + m * 5 + 3, none⟩ = some (Value.slice fa fn fc) ∧ w'.cell? ⟨gz, oz + m * 5 + 4, none⟩ = some (Value.slice ta tn tc)) ∧ Below wr.heap.size wr w') (by kernel_rfl) (hS.drew.lims) (fun hHeld => ?_)
            refine wpAnyH_take (i := 0) (v := ?_) rfl (by kernel_rfl) (by kernel_rfl) (by kernel_rfl) (fun _ _ _ h => h) (Or.inl ⟨by rfl, ?_⟩) hHeld ?_
            rotate_left
            · intro w hSw; (try dsimp only at hSw); first | (go_simp; done) | (go_simp; with_reducible rfl)
            try simp only [Act.put, List.setIfInBounds_toArray, List.set_cons_zero, List.set_cons_succ, List.getElem_toArray, List.getElem_cons_zero]
            refine wpAnyH_take (i := 1) (v := ?_) rfl (by kernel_rfl) (by kernel_rfl) (by kernel_rfl) (fun _ _ _ h => h) (Or.inl ⟨by rfl, ?_⟩) hHeld ?_
            rotate_left
            · intro w hSw; (try dsimp only at hSw); first | (go_simp; done) | (go_simp; with_reducible rfl)
            try simp only [Act.put, List.setIfInBounds_toArray, List.set_cons_zero, List.set_cons_succ, List.getElem_toArray, List.getElem_cons_zero, List.getElem_cons_succ]
            refine wpAnyH_take (i := 2) (v := ?_) rfl (by kernel_rfl) (by kernel_rfl) (by kernel_rfl) (fun _ _ _ h => h) (Or.inl ⟨by rfl, ?_⟩) hHeld ?_
            rotate_left
            · intro w hSw; (try dsimp only at hSw); first | (go_simp; done) | (go_simp; with_reducible rfl)
            try simp only [Act.put, List.setIfInBounds_toArray, List.set_cons_zero, List.set_cons_succ, List.getElem_toArray, List.getElem_cons_zero, List.getElem_cons_succ]
            refine wpAnyH_take (i := 3) (v := ?_) rfl (by kernel_rfl) (by kernel_rfl) (by kernel_rfl) (fun _ _ _ h => h) (Or.inl ⟨by rfl, ?_⟩) hHeld ?_
            rotate_left
            · intro w hSw; (try dsimp only at hSw); first | (go_simp; done) | (go_simp; with_reducible rfl)
            try simp only [Act.put, List.setIfInBounds_toArray, List.set_cons_zero, List.set_cons_succ, List.getElem_toArray, List.getElem_cons_zero, List.getElem_cons_succ]
            refine wpAnyH_take (i := 4) (v := ?_) rfl (by kernel_rfl) (by kernel_rfl) (by kernel_rfl) (fun _ _ _ h => h) (Or.inl ⟨by rfl, ?_⟩) hHeld ?_
            rotate_left
            · intro w hSw; (try dsimp only at hSw); first | (go_simp; done) | (go_simp; with_reducible rfl)
            try simp only [Act.put, List.setIfInBounds_toArray, List.set_cons_zero, List.set_cons_succ, List.getElem_toArray, List.getElem_cons_zero, List.getElem_cons_succ]
            refine wpAnyH_take (i := 5) (v := ?_) rfl (by kernel_rfl) (by kernel_rfl) (by kernel_rfl) (fun _ _ _ h => h) (Or.inl ⟨by rfl, ?_⟩) hHeld ?_
            rotate_left
            · intro w hSw; (try dsimp only at hSw); first | (go_simp; done) | (go_simp; with_reducible rfl)
            try simp only [Act.put, List.setIfInBounds_toArray, List.set_cons_zero, List.set_cons_succ, List.getElem_toArray, List.getElem_cons_zero, List.getElem_cons_succ]
            refine wpAnyH_take (i := 6) (v := ?_) rfl (by kernel_rfl) (by kernel_rfl) (by kernel_rfl) (fun _ _ _ h => h) (Or.inl ⟨by rfl, ?_⟩) hHeld ?_
            rotate_left
            · intro w hSw; (try dsimp only at hSw); first | (go_simp; done) | (go_simp; with_reducible rfl)
            try simp only [Act.put, List.setIfInBounds_toArray, List.set_cons_zero, List.set_cons_succ, List.getElem_toArray, List.getElem_cons_zero, List.getElem_cons_succ]
            refine wpAnyH_take (i := 7) (v := ?_) rfl (by kernel_rfl) (by kernel_rfl) (by kernel_rfl) (fun _ _ _ h => h) (Or.inl ⟨by rfl, ?_⟩) hHeld ?_
            rotate_left
            · intro w hSw; (try dsimp only at hSw); first | (go_simp; done) | (go_simp; with_reducible rfl)
            try simp only [Act.put, List.setIfInBounds_toArray, List.set_cons_zero, List.set_cons_succ, List.getElem_toArray, List.getElem_cons_zero, List.getElem_cons_succ]
            refine wpAnyH_take (i := 8) (v := ?_) rfl (by kernel_rfl) (by kernel_rfl) (by kernel_rfl) (fun _ _ _ h => h) (Or.inl ⟨by rfl, ?_⟩) hHeld ?_
            rotate_left
            · intro w hSw; (try dsimp only at hSw); first | (go_simp; done) | (go_simp; with_reducible rfl)
            try simp only [Act.put, List.setIfInBounds_toArray, List.set_cons_zero, List.set_cons_succ, List.getElem_toArray, List.getElem_cons_zero, List.getElem_cons_succ]
            refine wpAnyH_take (i := 9) (v := ?_) rfl (by kernel_rfl) (by kernel_rfl) (by kernel_rfl) (fun _ _ _ h => h) (Or.inl ⟨by rfl, ?_⟩) hHeld ?_
            rotate_left
            · intro w hSw; (try dsimp only at hSw); first | (go_simp; done) | (go_simp; with_reducible rfl)
            try simp only [Act.put, List.setIfInBounds_toArray, List.set_cons_zero, List.set_cons_succ, List.getElem_toArray, List.getElem_cons_zero, List.getElem_cons_succ]
            refine wpAnyH_take (i := 10) (v := ?_) rfl (by kernel_rfl) (by kernel_rfl) (by kernel_rfl) (fun _ _ _ h => h) (Or.inl ⟨by rfl, ?_⟩) hHeld ?_
            rotate_left
            · intro w hSw; (try dsimp only at hSw); first | (go_simp; done) | (go_simp; with_reducible rfl)
            try simp only [Act.put, List.setIfInBounds_toArray, List.set_cons_zero, List.set_cons_succ, List.getElem_toArray, List.getElem_cons_zero, List.getElem_cons_succ]
            refine wpAnyH_ready (rs := [11]) (by kernel_rfl) (by simp) ?_
            refine AllReadyH.cons rfl (fun K hK => ?_) AllReadyH.nil
            go_simp
            go_wp2_with (go_at_call 48; refine (hj_call (hrel _ hS.drew.2.2.2.2.2.2.2.2) hS.drew).mono ?_; rintro e wy ⟨rfl, hS3⟩)
            refine hK.out _ _ (hS3.lims) (fun hHeld => ?_)
            clear hK K
            refine wpAnyH_take (i := 12) (v := ?_) rfl (by kernel_rfl) (by kernel_rfl) (by kernel_rfl) (fun _ _ _ h => h) (Or.inl ⟨by rfl, ?_⟩) hHeld ?_
            rotate_left
            · intro w hSw; (try dsimp only at hSw); first | (go_simp; done) | (go_simp; with_reducible rfl)
            try simp only [Act.put, List.setIfInBounds_toArray, List.set_cons_zero, List.set_cons_succ, List.getElem_toArray, List.getElem_cons_zero, List.getElem_cons_succ]
            refine wpAnyH_take (i := 13) (v := ?_) rfl (by kernel_rfl) (by kernel_rfl) (by kernel_rfl) (fun _ _ _ h => h) (Or.inl ⟨by rfl, ?_⟩) hHeld ?_
            rotate_left
            · intro w hSw; (try dsimp only at hSw); first | (go_simp; done) | (go_simp; with_reducible rfl)
            try simp only [Act.put, List.setIfInBounds_toArray, List.set_cons_zero, List.set_cons_succ, List.getElem_toArray, List.getElem_cons_zero, List.getElem_cons_succ]
            refine wpAnyH_done (by kernel_rfl) ?_ _
            have hE := hS3.2.2.2.2.2.2.2.2
            clear hS3 hS hrel
            go_wp2_with fail
            go_roundg (yn - m)
            case rel => exact ⟨m + 1, congrArg Value.bool (by rw [HST.out, HAB.out]; rfl), by simp, by have := HGM.out; have := HML.out; omega, HML.out, hBm.trans (hE.mono hBm.size)⟩
            case measure => have := HGM.out; have := HML.out; omega
          | false =>
            go_upto_region 8 with fail
            clear rc ha5
            refine wp_region_held_drew (S := fun w' => (∀ o, w'.cell? ⟨w.heap.size, o, none⟩ = #[Value.slice (some ⟨ag, ao, none⟩) n c, Value.string t, Value.int .i64 bad][o]?) ∧ (∀ o, w'.cell? ⟨w.heap.size + 1, o, none⟩ = #[Value.bool neg, Value.string ds, Value.int .i64 (k : Int)][o]?) ∧ w'.cell? ⟨ag, ao + i, none⟩ = some (Value.slice (some ⟨gz, oz, none⟩) yn yc) ∧ (w'.cell? ⟨gz, oz + m * 5, none⟩ = some (Value.int .u8 r.op) ∧ w'.cell? ⟨gz, oz + m * 5 + 1, none⟩ = some (Value.int .i64 (r.by_ : Int)) ∧ w'.cell? ⟨gz, oz + m * 5 + 2, none⟩ = some (Value.bool r.nt) ∧ w'.cell? ⟨gz, oz + m * 5 + 3, none⟩ = some (Value.slice fa fn fc) ∧ w'.cell? ⟨gz, oz + m * 5 + 4, none⟩ = some (Value.slice ta tn tc)) ∧ Below wr.heap.size wr w') (by kernel_rfl) (hS.drew.lims) (fun hHeld => ?_)
            refine wpAnyH_take (i := 0) (v := ?_) rfl (by kernel_rfl) (by kernel_rfl) (by kernel_rfl) (fun _ _ _ h => h) (Or.inl ⟨by rfl, ?_⟩) hHeld ?_
            rotate_left
            · intro w hSw; (try dsimp only at hSw); first | (go_simp; done) | (go_simp; with_reducible rfl)
            try simp only [Act.put, List.setIfInBounds_toArray, List.set_cons_zero, List.set_cons_succ, List.getElem_toArray, List.getElem_cons_zero]
            refine wpAnyH_take (i := 1) (v := ?_) rfl (by kernel_rfl) (by kernel_rfl) (by kernel_rfl) (fun _ _ _ h => h) (Or.inl ⟨by rfl, ?_⟩) hHeld ?_
            rotate_left
            · intro w hSw; (try dsimp only at hSw); first | (go_simp; done) | (go_simp; with_reducible rfl)
            try simp only [Act.put, List.setIfInBounds_toArray, List.set_cons_zero, List.set_cons_succ, List.getElem_toArray, List.getElem_cons_zero, List.getElem_cons_succ]
            refine wpAnyH_take (i := 2) (v := undef) rfl (by kernel_rfl) (by kernel_rfl) (by kernel_rfl) (fun _ _ _ h => h) (Or.inr ⟨by rfl, rfl⟩) hHeld ?_
            try simp only [Act.put, List.setIfInBounds_toArray, List.set_cons_zero, List.set_cons_succ, List.getElem_toArray, List.getElem_cons_zero, List.getElem_cons_succ]
            refine wpAnyH_take (i := 3) (v := undef) rfl (by kernel_rfl) (by kernel_rfl) (by kernel_rfl) (fun _ _ _ h => h) (Or.inr ⟨by rfl, rfl⟩) hHeld ?_
            try simp only [Act.put, List.setIfInBounds_toArray, List.set_cons_zero, List.set_cons_succ, List.getElem_toArray, List.getElem_cons_zero, List.getElem_cons_succ]
            refine wpAnyH_take (i := 4) (v := undef) rfl (by kernel_rfl) (by kernel_rfl) (by kernel_rfl) (fun _ _ _ h => h) (Or.inr ⟨by rfl, rfl⟩) hHeld ?_
            try simp only [Act.put, List.setIfInBounds_toArray, List.set_cons_zero, List.set_cons_succ, List.getElem_toArray, List.getElem_cons_zero, List.getElem_cons_succ]
            refine wpAnyH_take (i := 5) (v := undef) rfl (by kernel_rfl) (by kernel_rfl) (by kernel_rfl) (fun _ _ _ h => h) (Or.inr ⟨by rfl, rfl⟩) hHeld ?_
            try simp only [Act.put, List.setIfInBounds_toArray, List.set_cons_zero, List.set_cons_succ, List.getElem_toArray, List.getElem_cons_zero, List.getElem_cons_succ]
            refine wpAnyH_take (i := 6) (v := undef) rfl (by kernel_rfl) (by kernel_rfl) (by kernel_rfl) (fun _ _ _ h => h) (Or.inr ⟨by rfl, rfl⟩) hHeld ?_
            try simp only [Act.put, List.setIfInBounds_toArray, List.set_cons_zero, List.set_cons_succ, List.getElem_toArray, List.getElem_cons_zero, List.getElem_cons_succ]
            refine wpAnyH_take (i := 7) (v := undef) rfl (by kernel_rfl) (by kernel_rfl) (by kernel_rfl) (fun _ _ _ h => h) (Or.inr ⟨by rfl, rfl⟩) hHeld ?_
            try simp only [Act.put, List.setIfInBounds_toArray, List.set_cons_zero, List.set_cons_succ, List.getElem_toArray, List.getElem_cons_zero, List.getElem_cons_succ]
            refine wpAnyH_take (i := 8) (v := undef) rfl (by kernel_rfl) (by kernel_rfl) (by kernel_rfl) (fun _ _ _ h => h) (Or.inr ⟨by rfl, rfl⟩) hHeld ?_
            try simp only [Act.put, List.setIfInBounds_toArray, List.set_cons_zero, List.set_cons_succ, List.getElem_toArray, List.getElem_cons_zero, List.getElem_cons_succ]
            refine wpAnyH_take (i := 9) (v := undef) rfl (by kernel_rfl) (by kernel_rfl) (by kernel_rfl) (fun _ _ _ h => h) (Or.inr ⟨by rfl, rfl⟩) hHeld ?_
            try simp only [Act.put, List.setIfInBounds_toArray, List.set_cons_zero, List.set_cons_succ, List.getElem_toArray, List.getElem_cons_zero, List.getElem_cons_succ]
            refine wpAnyH_take (i := 10) (v := undef) rfl (by kernel_rfl) (by kernel_rfl) (by kernel_rfl) (fun _ _ _ h => h) (Or.inr ⟨by rfl, rfl⟩) hHeld ?_
            try simp only [Act.put, List.setIfInBounds_toArray, List.set_cons_zero, List.set_cons_succ, List.getElem_toArray, List.getElem_cons_zero, List.getElem_cons_succ]
            refine wpAnyH_take (i := 11) (v := undef) rfl (by kernel_rfl) (by kernel_rfl) (by kernel_rfl) (fun _ _ _ h => h) (Or.inr ⟨by rfl, rfl⟩) hHeld ?_
            try simp only [Act.put, List.setIfInBounds_toArray, List.set_cons_zero, List.set_cons_succ, List.getElem_toArray, List.getElem_cons_zero, List.getElem_cons_succ]
            refine wpAnyH_take (i := 12) (v := ?_) rfl (by kernel_rfl) (by kernel_rfl) (by kernel_rfl) (fun _ _ _ h => h) (Or.inl ⟨by rfl, ?_⟩) hHeld ?_
            rotate_left
            · intro w hSw; (try dsimp only at hSw); first | (go_simp; done) | (go_simp; with_reducible rfl)
            try simp only [Act.put, List.setIfInBounds_toArray, List.set_cons_zero, List.set_cons_succ, List.getElem_toArray, List.getElem_cons_zero, List.getElem_cons_succ]
            refine wpAnyH_take (i := 13) (v := ?_) rfl (by kernel_rfl) (by kernel_rfl) (by kernel_rfl) (fun _ _ _ h => h) (Or.inl ⟨by rfl, ?_⟩) hHeld ?_
            rotate_left
            · intro w hSw; (try dsimp only at hSw); first | (go_simp; done) | (go_simp; with_reducible rfl)
            try simp only [Act.put, List.setIfInBounds_toArray, List.set_cons_zero, List.set_cons_succ, List.getElem_toArray, List.getElem_cons_zero, List.getElem_cons_succ]
            refine wpAnyH_done (by kernel_rfl) ?_ _
            have hE := (Below.refl wr.heap.size wr).drew
            clear hS hrel
            go_wp2_with fail
            go_roundg (yn - m)
            case rel => exact ⟨m + 1, congrArg Value.bool (by rw [HST.out, HAB.out]; rfl), by simp, by have := HGM.out; have := HML.out; omega, HML.out, hBm.trans (hE.mono hBm.size)⟩
            case measure => have := HGM.out; have := HML.out; omega
        · have hmI : ¬ (m : Int) < yn := by omega
          have hall : (rs.take m).all (rlH ds k) = rs.all (rlH ds k) := by rw [List.take_of_length_le (by have := HYN.out; omega)]
          rw [hall]
          have rc := kr.cell
          clear hml hg hm hall
          cases hres : rs.all (rlH ds k) with
          | true =>
            have hyes : rowsH ds k rows = true := List.any_eq_true.2 ⟨rs, by rw [← HRS.out]; exact List.getElem_mem HLI.out, hres⟩
            have HYES := Lib.hid hyes
            clear hyes hres
            go_wp2_with fail
            go_ret
            exact ⟨ret_bool HYES.out.symm, hBM⟩
          | false =>
            have hno : ∀ j (hj : j < rows.length), j < i + 1 → rows[j].all (rlH ds k) = false := fun j hj hji => by
              by_cases e : j = i
              · subst e
                rw [HRS.out]
                exact hres
              · exact HNO.out j hj (by omega)
            have HNO2 := Lib.hid hno
            clear hno hres
            go_wp2_with fail
            go_roundg (n - i)
            case rel => exact ⟨i + 1, by simp, by have := HG.out; have := HLT.out; omega, HLT.out, HNO2.out, hBr2⟩
            case measure => have := HG.out; have := HLT.out; omega
    · have hiI : ¬ (i : Int) < n := by omega
      have hnob : rowsH ds k rows = false := by
        refine List.any_eq_false.2 fun rs hrs => ?_
        obtain ⟨j, hj, rfl⟩ := List.getElem_of_mem hrs
        have h := hno j hj (by have := HNN.out; omega)
        rw [h]
        decide
      have HNB := Lib.hid hnob
      have rc := kr.cell
      clear hno hnob hlt hg hi
      go_wp2_with fail
      go_ret
      exact ⟨ret_bool HNB.out.symm, hBR⟩
end Go.Proofs.YtgbemhehbhlgpaaGreatDoor
