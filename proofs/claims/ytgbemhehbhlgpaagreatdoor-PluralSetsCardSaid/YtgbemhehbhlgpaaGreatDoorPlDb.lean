/-
  Laws and contracts taken over from earlier texts (cut out by a program of this seat's own, slice.py), as far as this seat needs them.
-/
import Derived.Test.YtgbemhehbhlgpaaGreatDoorPlDa
namespace Go.Proofs.YtgbemhehbhlgpaaGreatDoor
section
open Go.RowKit Go.PlainAid
theorem last_non (p : Nat → Bool) : ∀ n, ∃ k, k ≤ n ∧ (∀ j, k ≤ j → j < n → p j = true) ∧ (0 < k → p (k - 1) = false)
  | 0 => ⟨0, Nat.le_refl _, fun j _ h => absurd h (by omega), fun h => absurd h (by omega)⟩
  | n + 1 => by
    cases hp : p n with
    | false => exact ⟨n + 1, Nat.le_refl _, fun j h h' => absurd h (by omega), fun _ => hp⟩
    | true =>
      obtain ⟨k, h1, h2, h3⟩ := last_non p n
      exact ⟨k, by omega, fun j a b => by
        by_cases e : j = n
        · rw [e]; exact hp
        · exact h2 j a (by omega), h3⟩

/-- How many digits of a row are left without the noughts at its end. -/
theorem strip (l : List Nat) (hl : l ≠ []) (h10 : ∀ d ∈ l, d < 10) :
    ∃ m, 1 ≤ m ∧ m ≤ l.length ∧ (∀ j (hj : j < l.length), m ≤ j → l[j] = 0) ∧ (m = 1 ∨ ∃ h : m - 1 < l.length, l[m - 1] ≠ 0) ∧ textL (l.take m).reverse = digs (rowval l) := by
  have h0 : 0 < l.length := List.length_pos_iff.2 hl
  obtain ⟨k, h1, h2, h3⟩ := last_non (fun j => l.getD j 0 == 0) l.length
  have hz : ∀ j (hj : j < l.length), k ≤ j → l[j] = 0 := fun j hj hk => by
    have := h2 j hk hj
    rw [List.getD_eq_getElem?_getD, List.getElem?_eq_getElem hj] at this
    simpa using this
  have tail : ∀ m, k ≤ m → m ≤ l.length → rowval (l.take m) = rowval l := fun m hk hm => by
    have e : l.drop m = List.replicate (l.length - m) 0 := by
      rw [List.eq_replicate_iff]
      refine ⟨by simp, fun x hx => ?_⟩
      obtain ⟨j, hj, rfl⟩ := List.getElem_of_mem hx
      rw [List.getElem_drop]
      exact hz _ (by simp at hj; omega) (by omega)
    have := rowval_append (l.take m) (l.drop m)
    rw [List.take_append_drop, e, rowval_zeros] at this
    omega
  have fin : ∀ m, 1 ≤ m → k ≤ m → m ≤ l.length → (m = 1 ∨ ∃ h : m - 1 < l.length, l[m - 1] ≠ 0) → textL (l.take m).reverse = digs (rowval l) := fun m hm1 hk hm hlast => by
    have hc : Canon (l.take m) := by
      refine ⟨by intro e; have := congrArg List.length e; rw [List.length_take, List.length_nil] at this; omega, fun d hd => h10 d (List.mem_of_mem_take hd), fun hlen => ?_⟩
      have hm' : (l.take m).length = m := by simp; omega
      rcases hlast with rfl | ⟨hlt, hne⟩
      · omega
      · rw [List.getLast?_eq_getElem?, hm', List.getElem?_take_of_lt (by omega), List.getElem?_eq_getElem hlt]
        simpa using hne
    unfold digs
    rw [← tail m hk hm, ← canon_low hc]
  by_cases e : k = 0
  · exact ⟨1, by omega, by omega, fun j hj hk => hz j hj (by omega), .inl rfl, fin 1 (by omega) (by omega) (by omega) (.inl rfl)⟩
  · have hlast : k - 1 < l.length := by omega
    have hne : l[k - 1] ≠ 0 := by
      have := h3 (by omega)
      rw [List.getD_eq_getElem?_getD, List.getElem?_eq_getElem hlast] at this
      simpa using this
    exact ⟨k, by omega, h1, hz, .inr ⟨hlast, hne⟩, fin k (by omega) (by omega) h1 (.inr ⟨hlast, hne⟩)⟩

theorem infoByte : (Tryz.prog.info? 5).map (fun i => (i.zero, i.size, i.bytes)) = some (some (.int .u8 0), 1, 1) := by kernel_rfl

/-- The row of bytes behind i rounds: the last i of n hold their digits. -/
def OutI (B n : Nat) (l : List Nat) (i : Nat) (w : World) : Prop :=
  ∀ j, j < n → w.cell? ⟨B, j, none⟩ = some (.int .u8 (if n - 1 - j < i then 48 + (l.getD (n - 1 - j) 0 : Int) else 0)) ∧ w.frozen? ⟨B, j, none⟩ = false

theorem digs_ne {n : Nat} (h : n ≠ 0) : ((digs n).toList == [48]) = false := by
  rw [beq_eq_false_iff_ne]
  intro e
  rw [Lib.toList_data] at e
  have h1 := dval_digs n
  unfold dval dl at h1
  rw [e] at h1
  simp [rowval] at h1
  omega

theorem outI_set {B p : Nat} {l : List Nat} {k : Nat} {w : World} (h : OutI B (p + 1) l k w) (hk : k < p + 1) (hl : k < l.length) : OutI B (p + 1) l (k + 1) (w.setCell ⟨B, p - k, none⟩ (.int .u8 (48 + (l[k] : Int)))) := fun j hj => by
  refine ⟨?_, by rw [World.frozen?_setCell]; exact (h j hj).2⟩
  by_cases e : j = p - k
  · subst e
    rw [World.cell?_setCell_same' _ _ _ (by rw [(h _ hj).1]; rfl), if_pos (by omega), show p + 1 - 1 - (p - k) = k by omega, List.getD_eq_getElem?_getD, List.getElem?_eq_getElem hl]
    rfl
  · rw [World.cell?_setCell_other _ _ _ _ (by first | (simp; done) | (simp; omega)), (h j hj).1]
    by_cases e2 : p + 1 - 1 - j < k
    · rw [if_pos e2, if_pos (by omega)]
    · rw [if_neg e2, if_neg (by omega)]

/-- The text that the row of bytes is at the end. -/
theorem outI_text {B p : Nat} {l : List Nat} {w : World} (h : OutI B (p + 1) l (p + 1) w) (hl : p + 1 ≤ l.length) (h10 : ∀ d ∈ l, d < 10) : Lib.Bytes w B 0 (textL (l.take (p + 1)).reverse) := fun i hi => by
  have hlen : (l.take (p + 1)).reverse.length = p + 1 := by simp; omega
  have hi' : i < p + 1 := by rw [textL_size, hlen] at hi; exact hi
  have hb := bt_textL (l.take (p + 1)).reverse (fun d hd => h10 d (List.mem_of_mem_take (by simpa using hd))) i (by omega)
  rw [get_bt _ i hi, hb, Nat.zero_add, (h i hi').1, if_pos (by omega)]
  congr 3
  rw [List.getElem_reverse, List.getD_eq_getElem?_getD, List.getElem?_eq_getElem (by omega)]
  simp only [List.getElem_take, Option.getD_some]
  have e : (l.take (p + 1)).length - 1 - i = p + 1 - 1 - i := by rw [List.length_take]; omega
  simp only [e]

set_option maxRecDepth 100000 in
set_option maxHeartbeats 4000000 in
theorem rMade_ne (neg : Bool) (v : Value) (l : List Nat) (sc : Int) (base : Nat) (w : World) (hl : l ≠ []) (h10 : ∀ d ∈ l, d < 10) (hlen : l.length ≤ 1000000) (hr : IntRow base w v l) :
    Calls Tryz.prog 86 #[.bool neg, v, .int .i64 sc] w fun e w' => e = .returned (decE (madeR neg (rowval l) sc)) ∧ Below w.heap.size w w' := by
  obtain ⟨m, hm1, hm2, hz, hlast, htx⟩ := strip l hl h10
  rcases hr.read with ⟨h, _⟩ | ⟨g, cap, rfl, _, hg, hcap, _, hcell⟩
  · exact absurd h hl
  have HC := Lib.hid hcell; clear hcell
  have HT := Lib.hid htx; clear htx
  have HL := Lib.hid hlast; clear hlast
  have HZ := Lib.hid hz; clear hz
  have H10 := Lib.hid h10; clear h10
  clear hr hl
  have hmk := fun (n : Nat) (hn : n ≤ 1000000) (W : World) => run_make_row' (P := Tryz.prog) 93 5 (.int .u8 0) 1 Tryz.underlying93 infoByte rfl .i64 .i64 n (by omega) (by omega) W
  have HMK := Lib.hid hmk; clear hmk
  go_enter Tryz.func86, Tryz.ntmps86
  go_wp2_with fail
  have HW := Lib.hid (show (w.alloc (.cells #[.bool false, .string ⟨#[]⟩, .int .i64 0] 23)).heap.size = w.heap.size + 1 from World.size_alloc _ _)
  go_loop [8] (fun n => ∃ p : Nat, p + 1 ≤ l.length ∧ n = .int .i64 ((p : Int) + 1) ∧ m ≤ p + 1) (fun n => (intOf n).toNat)
  case atStart => exact ⟨l.length - 1, by omega, by congr 1; omega, by omega⟩
  case round =>
    obtain ⟨p, hp, rfl, hmp⟩ := hrel
    have hcl := HC.out p (by omega)
    obtain ⟨hcl1, hcl2⟩ := hcl
    by_cases hgo : m < p + 1
    · have hzp := HZ.out p (by omega) (by omega)
      rw [hzp] at hcl1
      cases p with
      | zero => omega
      | succ q =>
        clear hzp
        go_wp2
        go_round
        case rel => exact ⟨q, by omega, by go_num, by omega⟩
        case measure => simp [intOf]; omega
    · obtain rfl : m = p + 1 := by omega
      have hne : ¬ 0 < p ∨ (0 < p ∧ ((l[p]'(by omega) : Int) == 0) = false) := by
        by_cases hp0 : 0 < p
        · right
          rcases HL.out with h | ⟨h1, h2⟩
          · omega
          · have : l[p]'(by omega) ≠ 0 := h2
            refine ⟨hp0, ?_⟩
            simp
            omega
        · exact .inl hp0
      clear HL HZ hgo hmp hm2 hm1
      have hsz : (digs (rowval l)).size = p + 1 := by rw [← HT.out, textL_size]; simp; omega
      have HSZ := Lib.hid hsz; clear hsz
      by_cases h4 : 400 < p + 1
      · have HR := Lib.hid (show madeR neg (rowval l) sc = (false, ⟨#[]⟩, 0, 3) from if_pos (.inl (by have := HSZ.out; omega)))
        rcases hne with hne | ⟨hne, hne'⟩
        · omega
        · go_wp2
          go_returns
          exact ⟨ret_val (by rw [HR.out]), (Below.refl _ w).alloc (Nat.le_refl _) _⟩
      by_cases h5 : 400 < sc
      · have HR := Lib.hid (show madeR neg (rowval l) sc = (false, ⟨#[]⟩, 0, 3) from if_pos (.inr h5))
        rcases hne with hne | ⟨hne, hne'⟩
        all_goals
          go_wp2
          go_returns
          exact ⟨ret_val (by rw [HR.out]), (Below.refl _ w).alloc (Nat.le_refl _) _⟩
      have HR := Lib.hid (show madeR neg (rowval l) sc = (neg && rowval l != 0, digs (rowval l), sc, 0) from if_neg (by have := HSZ.out; omega))
      have hmk' : ∀ W : World, (Instr.makeSlice 93 (.int .i64 ((p : Int) + 1)) (.int .i64 ((p : Int) + 1))).run Tryz.prog W = .ok (.slice (some ⟨W.heap.size, 0, none⟩) (p + 1) (p + 1)) (W.alloc (.cells (madeCells #[.int .u8 0] (p + 1)) 5)) := fun W => HMK.out (p + 1) (by omega) W
      rcases hne with hne | ⟨hne, hne'⟩
      all_goals
        go_wp2
        have hcells : ∀ (W : World) (j : Nat), j < p + 1 → (W.alloc (.cells (madeCells #[.int .u8 0] (p + 1)) 5)).cell? ⟨W.heap.size, j, none⟩ = some (.int .u8 0) ∧ (W.alloc (.cells (madeCells #[.int .u8 0] (p + 1)) 5)).frozen? ⟨W.heap.size, j, none⟩ = false := fun W j hj => by
          refine ⟨?_, ?_⟩
          · rw [World.cell?_alloc_mark]
            rw [← Array.getElem?_toList, toList_madeCells_one, List.getElem?_replicate, if_pos hj]
          · rw [World.frozen?_alloc_mark]; simp
        have hB1 : Below (w.heap.size + 1) (w.alloc (.cells #[.bool false, .string ⟨#[]⟩, .int .i64 0] 23)) ((w.alloc (.cells #[.bool false, .string ⟨#[]⟩, .int .i64 0] 23)).alloc (.cells (madeCells #[.int .u8 0] (p + 1)) 5)) := (Below.refl _ _).alloc (by simp) _
        have hO : OutI (w.heap.size + 1) (p + 1) l 0 ((w.alloc (.cells #[.bool false, .string ⟨#[]⟩, .int .i64 0] 23)).alloc (.cells (madeCells #[.int .u8 0] (p + 1)) 5)) := fun j hj => by
          have h := hcells (w.alloc (.cells #[.bool false, .string ⟨#[]⟩, .int .i64 0] 23)) j hj
          rw [HW.out] at h
          rw [if_neg (by omega)]
          exact h
        have hW0 := (Below.refl w.heap.size w).alloc (Nat.le_refl _) (.cells #[.bool false, .string ⟨#[]⟩, .int .i64 0] 23)
        have r0 : (w.alloc (.cells #[.bool false, .string ⟨#[]⟩, .int .i64 0] 23)).cell? ⟨w.heap.size, 0, none⟩ = some (.bool false) := by go_simp
        have r1 : (w.alloc (.cells #[.bool false, .string ⟨#[]⟩, .int .i64 0] 23)).cell? ⟨w.heap.size, 1, none⟩ = some (.string ⟨#[]⟩) := by go_simp
        have r2 : (w.alloc (.cells #[.bool false, .string ⟨#[]⟩, .int .i64 0] 23)).cell? ⟨w.heap.size, 2, none⟩ = some (.int .i64 0) := by go_simp
        have f0 : ∀ j, (w.alloc (.cells #[.bool false, .string ⟨#[]⟩, .int .i64 0] 23)).frozen? ⟨w.heap.size, j, none⟩ = false := fun j => by go_simp
        generalize (w.alloc (.cells #[.bool false, .string ⟨#[]⟩, .int .i64 0] 23)).alloc (.cells (madeCells #[.int .u8 0] (p + 1)) 5) = W1 at *
        clear hcells hmk'
        have HO := Lib.hid hO; clear hO
        generalize w.alloc (.cells #[.bool false, .string ⟨#[]⟩, .int .i64 0] 23) = W0 at *
        have HF0 := Lib.hid f0; clear f0
        have R0 := Lib.hid r0; have R1 := Lib.hid r1; have R2 := Lib.hid r2
        clear r0 r1 r2
        go_loopw [10] (fun i wr => ∃ k : Nat, k ≤ p + 1 ∧ i = .int .i64 k ∧ Below (w.heap.size + 1) W0 wr ∧ OutI (w.heap.size + 1) (p + 1) l k wr) (fun i _ => p + 1 - (intOf i).toNat)
        case atStart => exact ⟨0, Nat.zero_le _, rfl, hB1, HO.out⟩
        case round =>
          obtain ⟨k, hk, rfl, hB, hI⟩ := hrel
          have HI := Lib.hid hI; clear hI
          have hBw := hW0.trans (hB.mono (by omega))
          have hzw : w.heap.size + 1 ≤ wr.heap.size := by have := hB.size; have := HW.out; omega
          have HZW := Lib.hid hzw; clear hzw
          by_cases hkp : k < p + 1
          · have hck := (hBw.cell (p := ⟨g, k, none⟩) hg).trans (HC.out k (by omega)).1
            have hd := H10.out _ (List.getElem_mem (show k < l.length by omega))
            have hx := HI.out (p - k) (by omega)
            rw [show p + 1 - 1 - (p - k) = k by omega, if_neg (by omega)] at hx
            obtain ⟨hx1, hx2⟩ := hx
            go_wp2
            go_roundw
            case rel => exact ⟨k + 1, by omega, by go_num, hB.setCell (by simp) _, outI_set HI.out hkp (by omega)⟩
            case measure => simp [intOf]; omega
          · obtain rfl : k = p + 1 := by omega
            have hby := outI_text HI.out hp H10.out
            rw [HT.out] at hby
            have hback := Lib.run_convert_whole (P := Tryz.prog) wr 93 5 9 Tryz.underlying93 Tryz.underlying5 Tryz.underlying9 _ _ _ hby (p + 1)
            rw [HSZ.out] at hback
            have hzw : w.heap.size < wr.heap.size := by have := HZW.out; omega
            have r0 := (hB.cell (p := ⟨w.heap.size, 0, none⟩) (by simp)).trans R0.out
            have r1 := (hB.cell (p := ⟨w.heap.size, 1, none⟩) (by simp)).trans R1.out
            have r2 := (hB.cell (p := ⟨w.heap.size, 2, none⟩) (by simp)).trans R2.out
            have f0 := (hB.frozen (p := ⟨w.heap.size, 0, none⟩) (by simp)).trans (HF0.out 0)
            have f1 := (hB.frozen (p := ⟨w.heap.size, 1, none⟩) (by simp)).trans (HF0.out 1)
            have f2 := (hB.frozen (p := ⟨w.heap.size, 2, none⟩) (by simp)).trans (HF0.out 2)
            by_cases hv : rowval l = 0
            · have e1 : digs (rowval l) = ⟨#[48]⟩ := by rw [hv]; decide +kernel
              have HR' := Lib.hid (show madeR neg (rowval l) sc = (false, ⟨#[48]⟩, sc, 0) by rw [HR.out, e1, hv]; simp)
              rw [e1] at hback
              clear e1 hv
              go_wp2
              refine bodyPost_ret (v := .tuple #[.agg #[.bool false, .string ⟨#[48]⟩, .int .i64 sc], .int .i64 0]) (by simp [results, Tryz.results86, go_sem, hzw, r0, r1, r2]) rfl ⟨?_, ?_⟩
              · exact ret_val (by rw [HR'.out])
              · exact (((hBw.setCell (p := ⟨w.heap.size, 0, none⟩) (Nat.le_refl _) _).setCell (p := ⟨w.heap.size, 1, none⟩) (Nat.le_refl _) _).setCell (p := ⟨w.heap.size, 2, none⟩) (Nat.le_refl _) _).alloc (by simp; omega) _
            · have e1 : ((digs (rowval l)).toList == [48]) = false := digs_ne hv
              have HR' := Lib.hid (show madeR neg (rowval l) sc = (neg, digs (rowval l), sc, 0) by rw [HR.out]; simp [hv])
              generalize digs (rowval l) = t at *
              clear hv
              go_wp2
              refine bodyPost_ret (v := .tuple #[.agg #[.bool neg, .string t, .int .i64 sc], .int .i64 0]) (by simp [results, Tryz.results86, go_sem, hzw, r0, r1, r2]) rfl ⟨?_, ?_⟩
              · exact ret_val (by rw [HR'.out])
              · exact (((hBw.setCell (p := ⟨w.heap.size, 0, none⟩) (Nat.le_refl _) _).setCell (p := ⟨w.heap.size, 1, none⟩) (Nat.le_refl _) _).setCell (p := ⟨w.heap.size, 2, none⟩) (Nat.le_refl _) _).alloc (by simp; omega) _

theorem IntRow.lit (w : World) (d : Nat) : IntRow w.heap.size (w.alloc (.cells #[.int .i64 (d : Int)] 3)) (.slice (some ⟨w.heap.size, 0, none⟩) 1 1) [d] := by
  refine ⟨rfl, .inr ⟨w.heap.size, 1, #[.int .i64 (d : Int)], rfl, Nat.le_refl _, ?_, Nat.le_refl _, by unfold maxLen; omega, rfl, rfl⟩⟩
  show (w.heap.push _)[w.heap.size]? = _
  simp

set_option maxRecDepth 100000 in
set_option maxHeartbeats 1000000 in
theorem rMade_nil (neg : Bool) (a : Option Addr) (cap : Nat) (sc : Int) (w : World) :
    Calls Tryz.prog 86 #[.bool neg, .slice a 0 cap, .int .i64 sc] w fun e w' => e = .returned (decE (madeR neg 0 sc)) ∧ Below w.heap.size w w' := by
  go_enter Tryz.func86, Tryz.ntmps86
  go_wp2_with fail
  refine wp_loop_rounds 1 ?_
  rw [rounds_succ]
  go_wp2_with fail
  have hrow := IntRow.lit (w.alloc (.cells #[.bool false, .string ⟨#[]⟩, .int .i64 0] 23)) 0
  rw [World.size_alloc] at hrow
  have c := rMade_ne neg _ [0] sc _ _ (by simp) (by simp) (by simp) hrow
  have e0 : rowval [0] = 0 := rfl
  rw [e0] at c
  clear hrow e0
  obtain ⟨r, hr⟩ : ∃ r, madeR neg 0 sc = r := ⟨_, rfl⟩
  rw [hr] at c
  have HR := Lib.hid hr; clear hr
  refine c.mono ?_
  rintro e w2 ⟨rfl, hB⟩
  have hz := hB.size
  have q0 : w2.cell? ⟨w.heap.size, 0, none⟩ = some (.bool false) := (hB.cell (p := ⟨w.heap.size, 0, none⟩) (by simp; omega)).trans (by go_simp)
  have q1 : w2.cell? ⟨w.heap.size, 1, none⟩ = some (.string ⟨#[]⟩) := (hB.cell (p := ⟨w.heap.size, 1, none⟩) (by simp; omega)).trans (by go_simp)
  have q2 : w2.cell? ⟨w.heap.size, 2, none⟩ = some (.int .i64 0) := (hB.cell (p := ⟨w.heap.size, 2, none⟩) (by simp; omega)).trans (by go_simp)
  have f0 : w2.frozen? ⟨w.heap.size, 0, none⟩ = false := (hB.frozen (p := ⟨w.heap.size, 0, none⟩) (by simp; omega)).trans (by go_simp)
  have f1 : w2.frozen? ⟨w.heap.size, 1, none⟩ = false := (hB.frozen (p := ⟨w.heap.size, 1, none⟩) (by simp; omega)).trans (by go_simp)
  have f2 : w2.frozen? ⟨w.heap.size, 2, none⟩ = false := (hB.frozen (p := ⟨w.heap.size, 2, none⟩) (by simp; omega)).trans (by go_simp)
  have hlt : w.heap.size < w2.heap.size := by simp at hz; omega
  have hBw : Below w.heap.size w w2 := (((Below.refl w.heap.size w).alloc (Nat.le_refl _) _).alloc (by simp) _).trans (hB.mono (by simp; omega))
  go_wp2
  refine bodyPost_ret (v := decE r) (by simp [results, Tryz.results86, go_sem, q0, q1, q2]) rfl ⟨ret_val (by rw [HR.out]), ?_⟩
  exact ((hBw.setCell (p := ⟨w.heap.size, 0, none⟩) (Nat.le_refl _) _).setCell (p := ⟨w.heap.size, 1, none⟩) (Nat.le_refl _) _).setCell (p := ⟨w.heap.size, 2, none⟩) (Nat.le_refl _) _

/-- The reference's Made at every row of digits. -/
theorem rMade_any (neg : Bool) (v : Value) (l : List Nat) (sc : Int) (base : Nat) (w : World) (h10 : ∀ d ∈ l, d < 10) (hlen : l.length ≤ 1000000) (hr : IntRow base w v l) :
    Calls Tryz.prog 86 #[.bool neg, v, .int .i64 sc] w fun e w' => e = .returned (decE (madeR neg (rowval l) sc)) ∧ Below w.heap.size w w' := by
  by_cases hl : l = []
  · subst hl
    rcases hr.read with ⟨_, rfl⟩ | ⟨g, cap, rfl, _, hg, _⟩
    · exact rMade_nil neg none 0 sc w
    · exact rMade_nil neg _ cap sc w
  · exact rMade_ne neg v l sc base w hl h10 hlen hr

end
section
open Go.RowKit Go.PlainAid
theorem wpList_snoc_int {ops : Array Oper} {rest : List Oper} {o : Oper} {a : Act} {Q : Exit → Act → World → Prop} {W0 w : World} {B : Nat} {y : Int} (hgd : o.guard = none) (s x : Operand)
    (ho : o.op = .call { callee := .builtin .append, args := #[s, x], argTypes := #[138, 138] })
    (base : Nat) (v : Value) (l : List Nat) (d : Nat) (hs : a.eval s = v) (hrow : IntRow base w v l) (hx : a.eval x = .slice (some ⟨w.heap.size, 0, none⟩) 1 1) (hy : y = (d : Int)) (hlen : l.length ≤ 1000000000000)
    (hB : Below B W0 w) (hW : B ≤ W0.heap.size) (hb : B ≤ base) (hz : base ≤ w.heap.size)
    (h : ∀ v' w', IntRow base w' v' (l ++ [d]) → Below B W0 w' → wpList Tryz.prog ops Q rest (a.put o.dst v') w') : wpList Tryz.prog ops Q (o :: rest) a (w.alloc (.cells #[.int .i64 y] 3)) := by
  obtain ⟨i0, hi, hz0, hz1, hz2⟩ := info_parts infoInt
  have hsz := hB.size
  refine wpList_append_own _ hgd s x 138 ho base 3 i0 (.int .i64 0) 1 8 Tryz.underlying138 hi hz0 hz1 hz2 rfl (by decide) v l.length _ hs (World.ownsRow.alloc hrow _) ⟨w.heap.size, 0, none⟩ 1 1 [.int .i64 y] hx rfl (cell_one_new _ _ _) (by simp [Value.oneCell']) (by unfold maxLen; omega) (by omega) (by simp; omega) ?_
  intro v' w' hown' hgrow _
  refine h v' w' (IntRow.snoc hy hown') ?_
  exact (hB.alloc (by omega) (.cells #[.int .i64 y] 3)).grown hgrow (by simp; omega) (fun k hk => Nat.le_trans hb (hrow.own k hk))

/-- A slice of bytes that a call has made (its block lies at base or behind). -/
def ByteRow (base : Nat) (w : World) (v : Value) (l : List UInt8) : Prop := w.ownsRow base 5 1 v l.length (l.map fun b => Value.int .u8 (b.toNat : Int))

theorem ByteRow.nil (base : Nat) (w : World) : ByteRow base w (.slice none 0 0) [] := World.ownsRow_nil _ _ _ _

theorem ByteRow.read {base : Nat} {w : World} {v : Value} {l : List UInt8} (h : ByteRow base w v l) :
    (l = [] ∧ v = .slice none 0 0) ∨ ∃ g cap, v = .slice (some ⟨g, 0, none⟩) l.length cap ∧ base ≤ g ∧ g < w.heap.size ∧ l.length ≤ cap ∧ cap ≤ maxLen ∧ ∀ j (hj : j < l.length), w.cell? ⟨g, j, none⟩ = some (.int .u8 (l[j].toNat : Int)) ∧ w.frozen? ⟨g, j, none⟩ = false := by
  obtain ⟨h1, h2⟩ := id h
  rcases h2 with ⟨hv, hn⟩ | ⟨g, cap, cur, hv, hg, hh, hc, hm, hs, ht⟩
  · exact .inl ⟨List.eq_nil_of_length_eq_zero hn, hv⟩
  · refine .inr ⟨g, cap, hv, hg, (Array.getElem?_eq_some_iff.1 hh).1, hc, hm, fun j hj => ?_⟩
    have h' : w.ownsRow base 5 1 (.slice (some ⟨g, 0, none⟩) l.length cap) l.length (l.map fun b => Value.int .u8 (b.toNat : Int)) := by rw [← hv]; exact h
    refine ⟨?_, World.ownsRow.frozenAt h' j⟩
    rw [World.ownsRow.cellAt h' j (by omega), List.getElem?_map, List.getElem?_eq_getElem hj]
    rfl

theorem ByteRow.later {base : Nat} {w w' : World} {v : Value} {l : List UInt8} (h : ByteRow base w v l) (hb : Below w.heap.size w w') : ByteRow base w' v l := by
  obtain ⟨h1, h2⟩ := h
  refine ⟨h1, ?_⟩
  rcases h2 with h2 | ⟨g, cap, cur, hv, hg, hh, r⟩
  · exact .inl h2
  · exact .inr ⟨g, cap, cur, hv, hg, (hb.block g (Array.getElem?_eq_some_iff.1 hh).1).trans hh, r⟩

theorem ByteRow.base {base base' : Nat} {w : World} {v : Value} {l : List UInt8} (h : ByteRow base w v l) (hb : base' ≤ base) : ByteRow base' w v l := by
  obtain ⟨h1, h2⟩ := h
  refine ⟨h1, ?_⟩
  rcases h2 with h2 | ⟨g, cap, cur, hv, hg, r⟩
  · exact .inl h2
  · exact .inr ⟨g, cap, cur, hv, Nat.le_trans hb hg, r⟩

theorem ByteRow.own {base : Nat} {w : World} {v : Value} {l : List UInt8} (h : ByteRow base w v l) : ∀ k, v.ownBlock = some k → base ≤ k := by
  rcases h.2 with ⟨hv, _⟩ | ⟨g, cap, cur, hv, hg, _⟩
  · intro k hk; rw [hv] at hk; cases hk
  · intro k hk
    rw [hv] at hk
    have : g = k := Option.some.inj hk
    omega

theorem ByteRow.snoc {base : Nat} {w : World} {v : Value} {l : List UInt8} {d : UInt8} {x : Int} (hx : x = (d.toNat : Int)) (h : w.ownsRow base 5 1 v (l.length + 1) ((l.map fun b => Value.int .u8 (b.toNat : Int)) ++ [.int .u8 x])) : ByteRow base w v (l ++ [d]) := by
  subst hx
  unfold ByteRow
  simpa using h

theorem wpList_snoc_byte {ops : Array Oper} {rest : List Oper} {o : Oper} {a : Act} {Q : Exit → Act → World → Prop} {W0 w : World} {B : Nat} {y : Int} (hgd : o.guard = none) (s x : Operand)
    (ho : o.op = .call { callee := .builtin .append, args := #[s, x], argTypes := #[93, 93] })
    (base : Nat) (v : Value) (l : List UInt8) (d : UInt8) (hs : a.eval s = v) (hrow : ByteRow base w v l) (hx : a.eval x = .slice (some ⟨w.heap.size, 0, none⟩) 1 1) (hy : y = (d.toNat : Int)) (hlen : l.length ≤ 1000000000000)
    (hB : Below B W0 w) (hW : B ≤ W0.heap.size) (hb : B ≤ base) (hz : base ≤ w.heap.size)
    (h : ∀ v' w', ByteRow base w' v' (l ++ [d]) → Below B W0 w' → wpList Tryz.prog ops Q rest (a.put o.dst v') w') : wpList Tryz.prog ops Q (o :: rest) a (w.alloc (.cells #[.int .u8 y] 5)) := by
  obtain ⟨i0, hi, hz0, hz1, hz2⟩ := info_parts infoByte
  have hsz := hB.size
  refine wpList_append_own _ hgd s x 93 ho base 5 i0 (.int .u8 0) 1 1 Tryz.underlying93 hi hz0 hz1 hz2 rfl (by decide) v l.length _ hs (World.ownsRow.alloc hrow _) ⟨w.heap.size, 0, none⟩ 1 1 [.int .u8 y] hx rfl (cell_one_new _ _ _) (by simp [Value.oneCell']) (by unfold maxLen; omega) (by omega) (by simp; omega) ?_
  intro v' w' hown' hgrow _
  refine h v' w' (ByteRow.snoc hy hown') ?_
  exact (hB.alloc (by omega) (.cells #[.int .u8 y] 5)).grown hgrow (by simp; omega) (fun k hk => Nat.le_trans hb (hrow.own k hk))

/-- The text of a row of bytes. -/
theorem ByteRow.text {base : Nat} {w : World} {v : Value} {l : List UInt8} (h : ByteRow base w v l) : (convert 93 9 v).run Tryz.prog w = .ok (.string ⟨l.toArray⟩) w := by
  rcases h.read with ⟨rfl, rfl⟩ | ⟨g, cap, rfl, _, _, _, _, hc⟩
  · exact Lib.run_convert_nil_bytes w _ _ 5 0 Tryz.underlying93 Tryz.underlying5 Tryz.underlying9
  · have hb : Lib.Bytes w g 0 ⟨l.toArray⟩ := fun i hi => by
      have hi' : i < l.length := by simpa [ByteArray.size] using hi
      rw [Nat.zero_add, (hc i hi').1]
      rfl
    have h := Lib.run_convert_whole (P := Tryz.prog) w 93 5 9 Tryz.underlying93 Tryz.underlying5 Tryz.underlying9 _ _ _ hb cap
    simpa [ByteArray.size] using h

end
end Go.Proofs.YtgbemhehbhlgpaaGreatDoor
