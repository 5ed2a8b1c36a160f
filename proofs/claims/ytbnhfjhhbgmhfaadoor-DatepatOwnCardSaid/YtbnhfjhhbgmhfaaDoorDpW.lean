/-
  Patterns of dates: the walk of Parse, whole.
-/
import Derived.Test.YtbnhfjhhbgmhfaaDoorDpV
import Derived.RegionTactic
namespace Go.Proofs.YtbnhfjhhbgmhfaaDoor
open Go.RowKit Go.PlainAid

/-- What Parse hands back: fields of its own, an error's number and a place. -/
def DpR (b0 : Nat) (r : List PF × Int × Int) (e : Ending) (w' : World) : Prop :=
  ∃ v', e = .returned (.tuple #[v', .agg #[.int .i64 r.2.1, .int .i64 r.2.2]]) ∧ PFRow b0 w' v' r.1

/-- What holds at the label, whatever world the label was met in first. -/
def DpK (s : ByteArray) (b0 : Nat) (w0 : World) (a : Act) (w' : World) : Prop :=
  ∃ W0, b0 < W0.heap.size ∧ Below b0 w0 W0 ∧ (W0.cell? ⟨b0, 0, none⟩ = some (.int .i64 0) ∧ W0.cell? ⟨b0, 1, none⟩ = some (.int .i64 0) ∧ W0.frozen? ⟨b0, 0, none⟩ = false ∧ W0.frozen? ⟨b0, 1, none⟩ = false) ∧ DpJ s b0 W0 a w'
def DpM (s : ByteArray) (a : Act) (_ : World) : Nat := s.size - (intOf (a.tmps.getD 6 undef)).toNat

theorem dp_meas {s : ByteArray} {b0 : Nat} {W0 W1 : World} {a a2 : Act} {w w2 : World} (hJ : DpJ s b0 W0 a w) (hJ2 : DpJ s b0 W1 a2 w2) (hlt : intOf (a.tmps.getD 6 undef) < intOf (a2.tmps.getD 6 undef)) : DpM s a2 w2 < DpM s a w := by
  obtain ⟨i, l, v, _, _, _, _, _, g6, hi, _⟩ := hJ
  obtain ⟨i2, l2, v2, _, _, _, _, _, k6, hi2, _⟩ := hJ2
  unfold DpM
  rw [g6, k6] at hlt ⊢
  simp [intOf] at hlt ⊢
  omega
theorem dp_pass2 (rest : Code) (hrest : findLabel dpCode 0 = some rest) (s : ByteArray) (b0 : Nat) (w0 : World) (hs : s.size ≤ 4096) (Q : Exit → Act → World → Prop) (hQ : ∀ a w', bodyPost Tryd.prog Tryd.f12 (fun e w' => DpE s b0 e w' ∧ Below b0 w0 w') .ret a w' → Q .ret a w')
    (a : Act) (w : World) (hK : DpK s b0 w0 a w) : rest.wp Tryd.prog (Exit.jump 0 (fun a' w' => DpK s b0 w0 a' w' ∧ DpM s a' w' < DpM s a w) Q) a w := by
  obtain ⟨c, hc, h⟩ := dp_pass'
  obtain rfl : rest = .seq .skip c := Option.some.inj (hrest.symm.trans hc)
  obtain ⟨W0, hb, hB, hc0, hJ⟩ := hK
  refine wp_seq (wp_skip ?_)
  exact h s b0 w0 W0 hs hb hB hc0 _ a w hJ (fun a' w' hp => hQ a' w' hp) (fun a2 w2 hJ2 hlt => ⟨rfl, ⟨W0, hb, hB, hc0, hJ2⟩, dp_meas hJ hJ2 hlt⟩)
theorem dp_fall (c : Code) (hrest : findLabel dpCode 0 = some (.seq .skip c)) (s : ByteArray) (b0 : Nat) (w0 : World) (hs : s.size ≤ 4096) (Q : Exit → Act → World → Prop) (hQ : ∀ a w', bodyPost Tryd.prog Tryd.f12 (fun e w' => DpE s b0 e w' ∧ Below b0 w0 w') .ret a w' → Q .ret a w')
    (a : Act) (w : World) (hK : DpK s b0 w0 a w) : c.wp Tryd.prog (Exit.jump 0 (DpK s b0 w0) Q) a w := by
  obtain ⟨c', hc, h⟩ := dp_pass'
  obtain rfl : c = c' := by have := Option.some.inj (hrest.symm.trans hc); injection this
  obtain ⟨W0, hb, hB, hc0, hJ⟩ := hK
  exact h s b0 w0 W0 hs hb hB hc0 _ a w hJ (fun a' w' hp => hQ a' w' hp) (fun a2 w2 hJ2 hlt => ⟨rfl, W0, hb, hB, hc0, hJ2⟩)

theorem dpR_bad {b0 : Nat} {w' : World} {r : List PF × Int × Int} {k i : Int} (h : r = ([], k, i)) : DpR b0 r (.returned (.tuple #[.slice none 0 0, .agg #[.int .i64 k, .int .i64 i]])) w' :=
  ⟨.slice none 0 0, by rw [h], by rw [h]; exact PFRow.nil _ _⟩

set_option maxRecDepth 100000 in
set_option maxHeartbeats 2000000 in
theorem dparse_any (s : ByteArray) (w : World) (hs : s.size ≤ 1000000000000000) :
    Calls Tryd.prog 12 #[.string s] w fun e w' => DpR w.heap.size (dpParse s) e w' ∧ Below w.heap.size w w' := by
  have hck := fun W => check_any s W hs
  have hB0 := (Below.refl w.heap.size w).alloc (Nat.le_refl _) (.cells #[.int .i64 0, .int .i64 0] 26)
  have sp := Blk.new w #[.int .i64 0, .int .i64 0] 26
  by_cases hbig : 4096 < s.size
  · have hr : dpParse s = ([], 3, 0) := if_pos hbig
    have hbI : (4096 : Int) < s.size := by omega
    have HR := Lib.hid hr
    clear hr hck hbig sp
    go_enter Tryd.func12, Tryd.ntmps12
    refine wp_seq_k fun K1 hK1 => ?_
    have HK1 := Lib.hid hK1; clear hK1
    go_wp2_with fail
    refine HK1.out _ _ ?_
    refine wp_scope_jumps 0 (fun _ _ => False) (fun _ _ => 0) rfl ?_ (fun _ _ h => h.elim)
    go_wp2_with fail
    simp only [Exit.jump]
    refine bodyPost_ret (v := .tuple #[.slice none 0 0, .agg #[.int .i64 3, .int .i64 0]]) (by simp [results, Tryd.results12, go_sem]) rfl ⟨dpR_bad (by rw [HR.out]), ?_⟩
    exact (Below.refl w.heap.size w).alloc (Nat.le_refl _) _
  · have hbI : ¬ (4096 : Int) < s.size := by omega
    have hs4 : s.size ≤ 4096 := by omega
    by_cases hb : 0 ≤ brk s 0
    · have hr : dpParse s = ([], 6, brk s 0) := by unfold dpParse; rw [if_neg hbig, if_pos hb]
      have HR := Lib.hid hr
      have hsv : spotV (brk s 0) = .agg #[.int .i64 6, .int .i64 (brk s 0)] := if_pos hb
      rw [hsv] at hck
      generalize brk s 0 = k at *
      clear hr hbig hb hsv
      go_enter Tryd.func12, Tryd.ntmps12
      refine wp_seq_k fun K1 hK1 => ?_
      have HK1 := Lib.hid hK1; clear hK1
      go_wp2_with fail
      refine HK1.out _ _ ?_
      refine wp_scope_jumps 0 (fun _ _ => False) (fun _ _ => 0) rfl ?_ (fun _ _ h => h.elim)
      go_wp2_with fail
      refine (hck _).mono ?_
      rintro e w1 ⟨rfl, hB1⟩
      have sp1 := sp.on hB1
      have hB2 := hB0.trans (hB1.mono (by simp))
      have hz2 := hB1.size
      go_wp2_with fail
      have hlt : w.heap.size < w1.heap.size := sp1.lt
      have e0 := sp1.free 0
      have e1 := sp1.free 1
      have d0 := sp1.cell 0
      have d1 := sp1.cell 1
      have hBE := (((hB2.setCell (p := ⟨w.heap.size, 0, none⟩) (Nat.le_refl _) (.int .i64 6)).setCell (p := ⟨w.heap.size, 1, none⟩) (Nat.le_refl _) (.int .i64 k)).alloc (by simp; omega) (.cells #[.int .i64 6, .int .i64 k] 26)).drew
      go_region
      go_wp2_with fail
      have q := ((sp1.set 0 (.int .i64 6)).set 1 (.int .i64 k)).alloc (.cells #[.int .i64 6, .int .i64 k] 26)
      have q0 := q.cell 0
      have q1 := q.cell 1
      simp at q0 q1
      simp only [Exit.jump]
      refine bodyPost_ret (v := .tuple #[.slice none 0 0, .agg #[.int .i64 6, .int .i64 k]]) (by simp [results, Tryd.results12, go_sem, q0, q1]) rfl ⟨dpR_bad (by rw [HR.out]), hBE⟩
    · have hr : dpParse s = pR s 0 [] := by unfold dpParse; rw [if_neg hbig, if_neg hb]
      have hsv : spotV (brk s 0) = .agg #[.int .i64 0, .int .i64 0] := if_neg hb
      rw [hsv] at hck
      have HR := Lib.hid hr
      clear hr hbig hb hsv
      go_enter Tryd.func12, Tryd.ntmps12
      refine wp_seq_k fun K1 hK1 => ?_
      have HK1 := Lib.hid hK1; clear hK1
      go_wp2_with fail
      refine HK1.out _ _ ?_
      refine wp_scope_jumps 0 (DpK s w.heap.size w) (DpM s) rfl ?_ ?_
      rotate_left
      · intro a w' hK
        exact dp_pass2 _ rfl s w.heap.size w hs4 _ (fun a w' h => by rw [HR.out]; exact h) a w' hK
      go_wp2_with fail
      refine (hck _).mono ?_
      rintro e w1 ⟨rfl, hB1⟩
      have sp1 := sp.on hB1
      have hB2 := hB0.trans (hB1.mono (by simp))
      have hz2 := hB1.size
      have f0 := sp1.free 0
      have f1 := sp1.free 1
      have d0 := sp1.cell 0
      have d1 := sp1.cell 1
      go_wp2_with fail
      refine wp_label ?_
      rename_i K1 hK1
      refine hK1 _ _ (dp_fall _ rfl s w.heap.size w hs4 _ (fun a w' h => by rw [HR.out]; exact h) _ _ ?_)
      have hlt : w.heap.size < w1.heap.size := sp1.lt
      refine ⟨_, ?_, hB2.alloc (by omega) (.cells #[.int .i64 0, .int .i64 0] 26), ?_, 0, [], .slice none 0 0, rfl, rfl, rfl, rfl, rfl, rfl, Nat.zero_le _, rfl, Nat.le_refl _, by simp, PFRow.nil _ _, Below.refl _ _⟩
      · simp; omega
      · have q := sp1.alloc (.cells #[.int .i64 0, .int .i64 0] 26)
        exact ⟨q.cell 0, q.cell 1, q.free 0, q.free 1⟩
end Go.Proofs.YtbnhfjhhbgmhfaaDoor
