/-
  An argument that is a slice of texts, opened.
-/
import Derived.Test.YtbnhfjhhbgmhfaaDoorDpC
import Derived.Deep.Strs
import Derived.ProofKit
import Derived.OpenShut
import Derived.WideShapes
namespace Go.Proofs.YtbnhfjhhbgmhfaaDoor
open Go.RowKit Go.ChangeShapes Go.WideShapes Go.Deep Go.Lib

theorem laidOut' : laidOutB Tryd.prog = true := by kernel_rfl
theorem weightsAll_mem {H : Type} {P : Program} {e : TypeId} {d : DataW H} {n : Nat} (hn : n ∈ d.weights P e) : ∀ {l : List (DataW H)}, d ∈ l → n ∈ DataW.weightsAll P e l
  | [], h => absurd h (by simp)
  | x :: l, h => by
    show n ∈ x.weights P e ++ DataW.weightsAll P e l
    rcases List.mem_cons.1 h with rfl | h
    · exact List.mem_append.2 (.inl hn)
    · exact List.mem_append.2 (.inr (weightsAll_mem hn h))
theorem weights_slice {H : Type} {P : Program} {t e : TypeId} {elems spare : List (DataW H)} (hu : P.underlying t = some (.slice e)) : (DataW.slice elems spare).weights P t = (elems.length + spare.length) * P.bytesOf e :: (DataW.weightsAll P e elems ++ DataW.weightsAll P e spare) := by
  simp only [DataW.weights, hu]
set_option maxRecDepth 100000 in
theorem open_strS {H : Type} {enc : TypeId × Value → H} {W : World} {base b0 : Nat} {held : Bool} {v : Value} {d : DataW H} {p : List MemPlace} (hv : Value.okWide Tryd.prog W .any b0 52 v) (h : DataW.Trod enc Tryd.prog W base (fun _ => true) held 52 v d p) (hw : ∀ n ∈ d.weights Tryd.prog 52, n ≤ 140737488351232) :
    ∃ L, StrAt W v L ∧ ∀ s ∈ L, s.size ≤ 1000000000000000 := by
  obtain ⟨a, len, cap, rfl⟩ := okWide_slice Tryd.underlying52 hv
  obtain ⟨n, hn⟩ := h
  rcases open_strs Tryd.underlying52 Tryd.underlying9 (by kernel_rfl) hn with ⟨hcs, _⟩ | ⟨a', len', cap', m, Sx, hcs, _, hl, hm, hmm, hx, hi⟩
  · simp [Value.cells] at hcs
    obtain ⟨rfl, rfl, rfl⟩ := hcs
    exact ⟨[], ⟨none, 0, rfl, fun _ => ⟨rfl, rfl⟩, by simp, fun j hj => absurd hj (by simp)⟩, fun s hs => absurd hs (by simp)⟩
  · simp [Value.cells] at hcs
    obtain ⟨rfl, rfl, rfl⟩ := hcs
    simp only [if_true] at hmm
    obtain rfl : cap = m := hmm.symm
    simp only [Prod.mk.injEq] at hx
    obtain ⟨rfl, _⟩ := hx
    rw [weights_slice Tryd.underlying52] at hw
    have hlw := hw _ (List.mem_cons_self)
    rw [show Tryd.prog.bytesOf 9 = 16 by kernel_rfl] at hlw
    simp at hlw
    refine ⟨(List.range len).map Sx, ⟨some a', cap, by simp, (fun h => by cases h), by simp; omega, fun j hj => ?_⟩, fun s hs => ?_⟩
    · have hj' : j < len := by simpa using hj
      obtain ⟨b, off, sp⟩ := a'
      have hc0 := (hi 0 (by omega)).1
      have hspot : sp = none := by simpa [Addr.add] using World.cell?_spot hc0
      subst hspot
      have hc := (hi j (by omega)).1
      rw [Lib.add_plain] at hc
      exact ⟨b, off, rfl, World.block_lt_of_cell? _ _ hc, by simpa using hc⟩
    · obtain ⟨j, hj, rfl⟩ := List.mem_map.1 hs
      have h := hw (Sx j).data.toList.length (List.mem_cons_of_mem _ (List.mem_append.2 (.inl (weightsAll_mem (d := .lit (.string (Sx j).data.toList)) (by simp [DataW.weights]) (List.mem_map.2 ⟨j, hj, rfl⟩)))))
      rw [Array.length_toList] at h
      have h2 : (Sx j).size ≤ 140737488351232 := h
      omega
end Go.Proofs.YtbnhfjhhbgmhfaaDoor
