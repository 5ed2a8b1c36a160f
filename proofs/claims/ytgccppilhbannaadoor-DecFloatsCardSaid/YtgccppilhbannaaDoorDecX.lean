/-
  Slices of ints that are read, wherever they begin: the reference's Made at any of them.
-/
import Derived.Test.YtgccppilhbannaaDoorDecW
import Derived.Test.YtgccppilhbannaaDoorDecV
import Derived.Lib.Hide
import Derived.Deep.OwnRows
import Derived.Handy
namespace Go.Proofs.YtgccppilhbannaaDoor
open Go.RowKit Go.PlainAid

/-- A slice of ints that reads as a row of digits. -/
def Ints (w : World) (v : Value) (l : List Nat) : Prop :=
  (l = [] ∧ ∃ a cap, v = .slice a 0 cap) ∨ ∃ g o cap, v = .slice (some ⟨g, o, none⟩) l.length cap ∧ g < w.heap.size ∧ l.length ≤ cap ∧ cap ≤ maxLen ∧ ∀ j (hj : j < l.length), w.cell? ⟨g, o + j, none⟩ = some (.int .i64 (l[j] : Int))
theorem IntRow.ints {base : Nat} {w : World} {v : Value} {l : List Nat} (h : IntRow base w v l) : Ints w v l := by
  rcases h.read with ⟨rfl, rfl⟩ | ⟨g, cap, rfl, _, hg, hc, hm, hcell⟩
  · exact .inl ⟨rfl, _, _, rfl⟩
  · exact .inr ⟨g, 0, cap, rfl, hg, hc, hm, fun j hj => by rw [Nat.zero_add]; exact (hcell j hj).1⟩
theorem Ints.later {B : Nat} {w w' : World} {v : Value} {l : List Nat} (h : Ints w v l) (hb : Below B w w') (hB : w.heap.size ≤ B) : Ints w' v l := by
  rcases h with h | ⟨g, o, cap, hv, hg, hc, hm, hcell⟩
  · exact .inl h
  · exact .inr ⟨g, o, cap, hv, Nat.lt_of_lt_of_le hg hb.size, hc, hm, fun j hj => (hb.cell (p := ⟨g, o + j, none⟩) (by show g < B; omega)).trans (hcell j hj)⟩
theorem Ints.form {w : World} {v : Value} {l : List Nat} (h : Ints w v l) (n : Nat) (hn : l.length = n) : ∃ a cap, v = .slice a n cap := by
  subst hn
  rcases h with ⟨rfl, a, cap, rfl⟩ | ⟨g, o, cap, rfl, _⟩
  · exact ⟨_, _, rfl⟩
  · exact ⟨_, _, rfl⟩
/-- A part of a row. -/
theorem Ints.part {w : World} {g o cap cap' n : Nat} {l : List Nat} (h : Ints w (.slice (some ⟨g, o, none⟩) n cap) l) (h0 : 0 < l.length) (a b : Nat) (_ : b ≤ l.length) (hc : b - a ≤ cap') (hm : cap' ≤ maxLen) (m : Nat) (hmm : m = b - a) : Ints w (.slice (some ⟨g, o + a, none⟩) m cap') ((l.take b).drop a) := by
  subst hmm
  rcases h with ⟨rfl, _⟩ | ⟨g', o', cap0, hv, hg, hc0, hm0, hcell⟩
  · simp at h0
  · simp at hv
    obtain ⟨⟨rfl, rfl⟩, rfl, rfl⟩ := hv
    have hl : ((l.take b).drop a).length = b - a := by simp; omega
    refine .inr ⟨g, o + a, cap', by rw [hl], hg, by omega, hm, fun j hj => ?_⟩
    rw [show o + a + j = o + (a + j) by omega, hcell (a + j) (by omega)]
    simp

set_option maxRecDepth 100000 in
set_option maxHeartbeats 4000000 in
theorem rMade_ints_ne (neg : Bool) (v : Value) (l : List Nat) (sc : Int) (w : World) (hl : l ≠ []) (h10 : ∀ d ∈ l, d < 10) (hlen : l.length ≤ 1000000) (hr : Ints w v l) :
    Calls Tryd.prog 21 #[.bool neg, v, .int .i64 sc] w fun e w' => e = .returned (decE (madeR neg (rowval l) sc)) ∧ Below w.heap.size w w' := by
  obtain ⟨m, hm1, hm2, hz, hlast, htx⟩ := strip l hl h10
  rcases hr with ⟨h, _⟩ | ⟨g, o, cap, rfl, hg, hcap, _, hcell⟩
  · exact absurd h hl
  have HC := Lib.hid hcell; clear hcell
  have HT := Lib.hid htx; clear htx
  have HL := Lib.hid hlast; clear hlast
  have HZ := Lib.hid hz; clear hz
  have H10 := Lib.hid h10; clear h10
  clear hl
  have hmk := fun (n : Nat) (hn : n ≤ 1000000) (W : World) => run_make_row' (P := Tryd.prog) 76 5 (.int .u8 0) 1 Tryd.underlying76 infoByte rfl .i64 .i64 n (by omega) (by omega) W
  have HMK := Lib.hid hmk; clear hmk
  go_enter Tryd.func21, Tryd.ntmps21
  go_wp2_with fail
  have HW := Lib.hid (show (w.alloc (.cells #[.bool false, .string ⟨#[]⟩, .int .i64 0] 23)).heap.size = w.heap.size + 1 from World.size_alloc _ _)
  go_loop [8] (fun n => ∃ p : Nat, p + 1 ≤ l.length ∧ n = .int .i64 ((p : Int) + 1) ∧ m ≤ p + 1) (fun n => (intOf n).toNat)
  case atStart => exact ⟨l.length - 1, by omega, by congr 1; omega, by omega⟩
  case round =>
    obtain ⟨p, hp, rfl, hmp⟩ := hrel
    have hcl1 := HC.out p (by omega)
    by_cases hgo : m < p + 1
    · have hzp := HZ.out p (by omega) (by omega)
      rw [hzp] at hcl1
      cases p with
      | zero => omega
      | succ q =>
        clear hzp
        go_wp2
        go_round
        case rel => exact ⟨q, by omega, by go_num, by omega⟩
        case measure => simp [intOf]; omega
    · obtain rfl : m = p + 1 := by omega
      have hne : ¬ 0 < p ∨ (0 < p ∧ ((l[p]'(by omega) : Int) == 0) = false) := by
        by_cases hp0 : 0 < p
        · right
          rcases HL.out with h | ⟨h1, h2⟩
          · omega
          · have : l[p]'(by omega) ≠ 0 := h2
            refine ⟨hp0, ?_⟩
            simp
            omega
        · exact .inl hp0
      clear HL HZ hgo hmp hm2 hm1
      have hsz : (digs (rowval l)).size = p + 1 := by rw [← HT.out, textL_size]; simp; omega
      have HSZ := Lib.hid hsz; clear hsz
      by_cases h4 : 400 < p + 1
      · have HR := Lib.hid (show madeR neg (rowval l) sc = (false, ⟨#[]⟩, 0, 3) from if_pos (.inl (by have := HSZ.out; omega)))
        rcases hne with hne | ⟨hne, hne'⟩
        · omega
        · go_wp2
          go_returns
          exact ⟨ret_val (by rw [HR.out]), (Below.refl _ w).alloc (Nat.le_refl _) _⟩
      by_cases h5 : 400 < sc
      · have HR := Lib.hid (show madeR neg (rowval l) sc = (false, ⟨#[]⟩, 0, 3) from if_pos (.inr h5))
        rcases hne with hne | ⟨hne, hne'⟩
        all_goals
          go_wp2
          go_returns
          exact ⟨ret_val (by rw [HR.out]), (Below.refl _ w).alloc (Nat.le_refl _) _⟩
      have HR := Lib.hid (show madeR neg (rowval l) sc = (neg && rowval l != 0, digs (rowval l), sc, 0) from if_neg (by have := HSZ.out; omega))
      have hmk' : ∀ W : World, (Instr.makeSlice 76 (.int .i64 ((p : Int) + 1)) (.int .i64 ((p : Int) + 1))).run Tryd.prog W = .ok (.slice (some ⟨W.heap.size, 0, none⟩) (p + 1) (p + 1)) (W.alloc (.cells (madeCells #[.int .u8 0] (p + 1)) 5)) := fun W => HMK.out (p + 1) (by omega) W
      rcases hne with hne | ⟨hne, hne'⟩
      all_goals
        go_wp2
        have hcells : ∀ (W : World) (j : Nat), j < p + 1 → (W.alloc (.cells (madeCells #[.int .u8 0] (p + 1)) 5)).cell? ⟨W.heap.size, j, none⟩ = some (.int .u8 0) ∧ (W.alloc (.cells (madeCells #[.int .u8 0] (p + 1)) 5)).frozen? ⟨W.heap.size, j, none⟩ = false := fun W j hj => by
          refine ⟨?_, ?_⟩
          · rw [World.cell?_alloc_mark]
            rw [← Array.getElem?_toList, toList_madeCells_one, List.getElem?_replicate, if_pos hj]
          · rw [World.frozen?_alloc_mark]; simp
        have hB1 : Below (w.heap.size + 1) (w.alloc (.cells #[.bool false, .string ⟨#[]⟩, .int .i64 0] 23)) ((w.alloc (.cells #[.bool false, .string ⟨#[]⟩, .int .i64 0] 23)).alloc (.cells (madeCells #[.int .u8 0] (p + 1)) 5)) := (Below.refl _ _).alloc (by simp) _
        have hO : OutI (w.heap.size + 1) (p + 1) l 0 ((w.alloc (.cells #[.bool false, .string ⟨#[]⟩, .int .i64 0] 23)).alloc (.cells (madeCells #[.int .u8 0] (p + 1)) 5)) := fun j hj => by
          have h := hcells (w.alloc (.cells #[.bool false, .string ⟨#[]⟩, .int .i64 0] 23)) j hj
          rw [HW.out] at h
          rw [if_neg (by omega)]
          exact h
        have hW0 := (Below.refl w.heap.size w).alloc (Nat.le_refl _) (.cells #[.bool false, .string ⟨#[]⟩, .int .i64 0] 23)
        have r0 : (w.alloc (.cells #[.bool false, .string ⟨#[]⟩, .int .i64 0] 23)).cell? ⟨w.heap.size, 0, none⟩ = some (.bool false) := by go_simp
        have r1 : (w.alloc (.cells #[.bool false, .string ⟨#[]⟩, .int .i64 0] 23)).cell? ⟨w.heap.size, 1, none⟩ = some (.string ⟨#[]⟩) := by go_simp
        have r2 : (w.alloc (.cells #[.bool false, .string ⟨#[]⟩, .int .i64 0] 23)).cell? ⟨w.heap.size, 2, none⟩ = some (.int .i64 0) := by go_simp
        have f0 : ∀ j, (w.alloc (.cells #[.bool false, .string ⟨#[]⟩, .int .i64 0] 23)).frozen? ⟨w.heap.size, j, none⟩ = false := fun j => by go_simp
        generalize (w.alloc (.cells #[.bool false, .string ⟨#[]⟩, .int .i64 0] 23)).alloc (.cells (madeCells #[.int .u8 0] (p + 1)) 5) = W1 at *
        clear hcells hmk'
        have HO := Lib.hid hO; clear hO
        generalize w.alloc (.cells #[.bool false, .string ⟨#[]⟩, .int .i64 0] 23) = W0 at *
        have HF0 := Lib.hid f0; clear f0
        have R0 := Lib.hid r0; have R1 := Lib.hid r1; have R2 := Lib.hid r2
        clear r0 r1 r2
        go_loopw [10] (fun i wr => ∃ k : Nat, k ≤ p + 1 ∧ i = .int .i64 k ∧ Below (w.heap.size + 1) W0 wr ∧ OutI (w.heap.size + 1) (p + 1) l k wr) (fun i _ => p + 1 - (intOf i).toNat)
        case atStart => exact ⟨0, Nat.zero_le _, rfl, hB1, HO.out⟩
        case round =>
          obtain ⟨k, hk, rfl, hB, hI⟩ := hrel
          have HI := Lib.hid hI; clear hI
          have hBw := hW0.trans (hB.mono (by omega))
          have hzw : w.heap.size + 1 ≤ wr.heap.size := by have := hB.size; have := HW.out; omega
          have HZW := Lib.hid hzw; clear hzw
          by_cases hkp : k < p + 1
          · have hck := (hBw.cell (p := ⟨g, o + k, none⟩) hg).trans (HC.out k (by omega))
            have hd := H10.out _ (List.getElem_mem (show k < l.length by omega))
            have hx := HI.out (p - k) (by omega)
            rw [show p + 1 - 1 - (p - k) = k by omega, if_neg (by omega)] at hx
            obtain ⟨hx1, hx2⟩ := hx
            go_wp2
            go_roundw
            case rel => exact ⟨k + 1, by omega, by go_num, hB.setCell (by simp) _, outI_set HI.out hkp (by omega)⟩
            case measure => simp [intOf]; omega
          · obtain rfl : k = p + 1 := by omega
            have hby := outI_text HI.out hp H10.out
            rw [HT.out] at hby
            have hback := Lib.run_convert_whole (P := Tryd.prog) wr 76 5 9 Tryd.underlying76 Tryd.underlying5 Tryd.underlying9 _ _ _ hby (p + 1)
            rw [HSZ.out] at hback
            have hzw : w.heap.size < wr.heap.size := by have := HZW.out; omega
            have r0 := (hB.cell (p := ⟨w.heap.size, 0, none⟩) (by simp)).trans R0.out
            have r1 := (hB.cell (p := ⟨w.heap.size, 1, none⟩) (by simp)).trans R1.out
            have r2 := (hB.cell (p := ⟨w.heap.size, 2, none⟩) (by simp)).trans R2.out
            have f0 := (hB.frozen (p := ⟨w.heap.size, 0, none⟩) (by simp)).trans (HF0.out 0)
            have f1 := (hB.frozen (p := ⟨w.heap.size, 1, none⟩) (by simp)).trans (HF0.out 1)
            have f2 := (hB.frozen (p := ⟨w.heap.size, 2, none⟩) (by simp)).trans (HF0.out 2)
            by_cases hv : rowval l = 0
            · have e1 : digs (rowval l) = ⟨#[48]⟩ := by rw [hv]; decide +kernel
              have HR' := Lib.hid (show madeR neg (rowval l) sc = (false, ⟨#[48]⟩, sc, 0) by rw [HR.out, e1, hv]; simp)
              rw [e1] at hback
              clear e1 hv
              go_wp2
              refine bodyPost_ret (v := .tuple #[.agg #[.bool false, .string ⟨#[48]⟩, .int .i64 sc], .int .i64 0]) (by simp [results, Tryd.results21, go_sem, hzw, r0, r1, r2]) rfl ⟨?_, ?_⟩
              · exact ret_val (by rw [HR'.out])
              · exact (((hBw.setCell (p := ⟨w.heap.size, 0, none⟩) (Nat.le_refl _) _).setCell (p := ⟨w.heap.size, 1, none⟩) (Nat.le_refl _) _).setCell (p := ⟨w.heap.size, 2, none⟩) (Nat.le_refl _) _).alloc (by simp; omega) _
            · have e1 : ((digs (rowval l)).toList == [48]) = false := digs_ne hv
              have HR' := Lib.hid (show madeR neg (rowval l) sc = (neg, digs (rowval l), sc, 0) by rw [HR.out]; simp [hv])
              generalize digs (rowval l) = t at *
              clear hv
              go_wp2
              refine bodyPost_ret (v := .tuple #[.agg #[.bool neg, .string t, .int .i64 sc], .int .i64 0]) (by simp [results, Tryd.results21, go_sem, hzw, r0, r1, r2]) rfl ⟨?_, ?_⟩
              · exact ret_val (by rw [HR'.out])
              · exact (((hBw.setCell (p := ⟨w.heap.size, 0, none⟩) (Nat.le_refl _) _).setCell (p := ⟨w.heap.size, 1, none⟩) (Nat.le_refl _) _).setCell (p := ⟨w.heap.size, 2, none⟩) (Nat.le_refl _) _).alloc (by simp; omega) _

/-- The reference's Made at every row of digits that can be read. -/
theorem rMade_ints (neg : Bool) (v : Value) (l : List Nat) (sc : Int) (w : World) (h10 : ∀ d ∈ l, d < 10) (hlen : l.length ≤ 1000000) (hr : Ints w v l) :
    Calls Tryd.prog 21 #[.bool neg, v, .int .i64 sc] w fun e w' => e = .returned (decE (madeR neg (rowval l) sc)) ∧ Below w.heap.size w w' := by
  by_cases hl : l = []
  · subst hl
    obtain ⟨a, cap, rfl⟩ := hr.form 0 rfl
    exact rMade_nil neg a cap sc w
  · exact rMade_ints_ne neg v l sc w hl h10 hlen hr
end Go.Proofs.YtgccppilhbannaaDoor
