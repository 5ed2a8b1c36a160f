/-
  An argument that is a slice of fields, opened.
-/
import Derived.Test.YtbnhfjhhbgmhfaaDoorPrintsW
import Derived.Deep.Strs
import Derived.ProofKit
import Derived.OpenShut
import Derived.WideShapes
namespace Go.Proofs.YtbnhfjhhbgmhfaaDoor
open Go.RowKit Go.ChangeShapes Go.WideShapes Go.Deep Go.Lib

theorem laidOut' : laidOutB Tryd.prog = true := by kernel_rfl
theorem bulk_mem {H : Type} {d : DataW H} : ∀ {l : List (DataW H)}, d ∈ l → Rows.uptoBulk d ≤ Rows.uptoBulkAll l
  | [], h => absurd h (by simp)
  | x :: l, h => by
    show Rows.uptoBulk d ≤ Rows.uptoBulk x + Rows.uptoBulkAll l
    rcases List.mem_cons.1 h with rfl | h
    · omega
    · have := bulk_mem h; omega
theorem bulk_pos {H : Type} (d : DataW H) : 1 ≤ Rows.uptoBulk d := by
  cases d with
  | lit x => cases x <;> simp [Rows.uptoBulk]
  | _ => simp [Rows.uptoBulk]
theorem bulk_len {H : Type} : ∀ (l : List (DataW H)), l.length ≤ Rows.uptoBulkAll l
  | [] => Nat.zero_le _
  | x :: l => by
    show l.length + 1 ≤ Rows.uptoBulk x + Rows.uptoBulkAll l
    have h1 := bulk_pos x
    have h2 := bulk_len l
    omega
set_option maxRecDepth 100000 in
theorem open_strF {H : Type} {enc : TypeId × Value → H} {W : World} {base b0 : Nat} {held : Bool} {v : Value} {d : DataW H} {p : List MemPlace} (hv : Value.okWide Tryd.prog W .any b0 23 v) (h : DataW.Trod enc Tryd.prog W base (fun _ => true) held 23 v d p) (hw : Rows.uptoBulk d ≤ 1048576) :
    ∃ l, PFArg W v l ∧ PFsz l := by
  obtain ⟨a, len, cap, rfl⟩ := okWide_slice Tryd.underlying23 hv
  obtain ⟨n, hn⟩ := h
  rcases open_slice Tryd.underlying23 hn with ⟨hcs, _⟩ | ⟨a', len', cap', m, n', D, Pl, hcs, _, hl, hm, hmm, hx, hi⟩
  · simp [Value.cells] at hcs
    obtain ⟨rfl, rfl, rfl⟩ := hcs
    exact ⟨[], ⟨⟨none, 0, rfl, by simp, fun j hj => absurd hj (by simp)⟩, none, 0, rfl, fun _ => ⟨rfl, rfl⟩⟩, by simp [PFsz]⟩
  · simp [Value.cells] at hcs
    obtain ⟨rfl, rfl, rfl⟩ := hcs
    simp only [if_true] at hmm
    obtain rfl : cap = m := hmm.symm
    simp only [Prod.mk.injEq] at hx
    obtain ⟨rfl, _⟩ := hx
    have hwl : (Rows.uptoBulkAll ((List.range len).map D)) ≤ 1048576 := by
      simp only [Rows.uptoBulk] at hw
      omega
    have hlen : len ≤ 1048576 := by
      have := bulk_len ((List.range len).map D)
      rw [List.length_map, List.length_range] at this
      omega
    have hsp : 0 < len → a'.spot = none := by
      intro h0
      obtain ⟨cs', h1, _⟩ := hi 0 (by omega)
      rw [show Tryd.prog.cellsOf 43 = 3 by kernel_rfl] at h1
      obtain ⟨_, hcl, hg⟩ := World.cells?_some h1
      match cs', hcl with
      | [v0, v1, v2], _ =>
        have g0 : W.cell? ((a'.add (0 * 3)).add 0) = some v0 := hg 0 (by omega)
        simpa [Addr.add] using World.cell?_spot g0
    have hC : ∀ i, i < len → ∃ x : PF, W.cell? (a'.add (i * 3)) = some (.int .u8 x.1) ∧ W.cell? (a'.add (i * 3 + 1)) = some (.int .i64 x.2.1) ∧ W.cell? (a'.add (i * 3 + 2)) = some (.string x.2.2) ∧ 0 ≤ x.1 ∧ x.1 ≤ 255 ∧ x.2.2.size ≤ 1100000 := by
      intro i hil
      obtain ⟨cs', h1, h2⟩ := hi i (by omega)
      rw [show Tryd.prog.cellsOf 43 = 3 by kernel_rfl] at h1
      obtain ⟨_, hcl, hg⟩ := World.cells?_some h1
      obtain ⟨y0, y1, y2, n2, hy, _, t0, t1, t2⟩ := trod_struct3 Tryd.underlying43 h2
      match cs', hcl with
      | [v0, v1, v2], _ =>
        replace t0 : DataW.trod enc Tryd.prog W base (fun _ => true) held n2 5 [v0] = some y0 := t0
        replace t1 : DataW.trod enc Tryd.prog W base (fun _ => true) held n2 3 [v1] = some y1 := t1
        replace t2 : DataW.trod enc Tryd.prog W base (fun _ => true) held n2 9 [v2] = some y2 := t2
        obtain ⟨z0, e0, _, w0⟩ := DataW.trod_int Tryd.underlying5 t0
        obtain ⟨z1, e1, _, _⟩ := DataW.trod_int Tryd.underlying3 t1
        obtain ⟨z2, e2, x2, _⟩ := DataW.trod_string Tryd.underlying9 t2
        have e0 : v0 = .int .u8 z0 := by simpa using e0
        have e1 : v1 = .int .i64 z1 := by simpa using e1
        have e2 : v2 = .string z2 := by simpa using e2
        subst e0 e1 e2
        have g0 := hg 0 (by omega)
        have g1 := hg 1 (by omega)
        have g2 := hg 2 (by omega)
        have hD : D i = .agg [y0.1, y1.1, y2.1] := by rw [Prod.mk.injEq] at hy; exact hy.1
        have hb := bulk_mem (List.mem_map.2 ⟨i, List.mem_range.2 hil, rfl⟩ : D i ∈ (List.range len).map D)
        have hb2 : z2.size ≤ 1100000 := by
          rw [hD, x2] at hb
          simp only [Rows.uptoBulk, Rows.uptoBulkAll] at hb
          have : z2.size = z2.data.toList.length := by rw [Array.length_toList]; rfl
          omega
        have hw0 : 0 ≤ z0 ∧ z0 ≤ 255 := by
          simp [Lit.wf] at w0
          simpa [IntKind.min, IntKind.max, IntKind.signed, IntKind.bits] using w0
        have hsp := hsp (by omega)
        clear hi h1 hg
        obtain ⟨b, off, sp⟩ := a'
        subst hsp
        simp only [Lib.add_plain] at g0 g1 g2 ⊢
        exact ⟨(z0, z1, z2), g0, g1, g2, hw0.1, hw0.2, hb2⟩
    obtain ⟨f, hf⟩ := choose_lt (α := PF) hC
    refine ⟨(List.range len).map f, ⟨⟨some a', cap, by simp, by simp; omega, fun j hj => ?_⟩, some a', cap, by simp, fun h => by cases h⟩, by simp; omega, fun x hx => ?_⟩
    · have hj' : j < len := by simpa using hj
      obtain ⟨b, off, sp⟩ := a'
      have h := hf j hj'
      have hspot : sp = none := hsp (by omega)
      subst hspot
      rw [Lib.add_plain, Lib.add_plain, Lib.add_plain] at h
      refine ⟨b, off, rfl, World.block_lt_of_cell? _ _ h.1, ?_, ?_, ?_⟩
      · simpa using h.1
      · simpa [Nat.add_assoc] using h.2.1
      · simpa [Nat.add_assoc] using h.2.2.1
    · obtain ⟨j, hj, rfl⟩ := List.mem_map.1 hx
      have h := hf j (List.mem_range.1 hj)
      exact ⟨h.2.2.2.1, h.2.2.2.2.1, h.2.2.2.2.2⟩
end Go.Proofs.YtbnhfjhhbgmhfaaDoor
