/-
  The reference's rows: a slice of digits in memory; the walk of Row.
-/
import Derived.Test.YtgccppilhbannaaDoorRows
import Derived.Test.YtgccppilhbannaaDoorDecP
import Derived.WalkKit
import Derived.WalkSpells
import Derived.WalkLawsBesides
import Derived.Lib.Hide
import Derived.Handy
namespace Go.Proofs.YtgccppilhbannaaDoor
open Go.RowKit Go.PlainAid

theorem infoInt : (Tryd.prog.info? 3).map (fun i => (i.zero, i.size, i.bytes)) = some (some (.int .i64 0), 1, 8) := by kernel_rfl

/-- A slice of ints that a call has made (its block lies at base or behind) and that holds a row of digits. -/
def IntRow (base : Nat) (w : World) (v : Value) (l : List Nat) : Prop := w.ownsRow base 3 1 v l.length (l.map fun d : Nat => Value.int .i64 (d : Int))
theorem IntRow.nil (base : Nat) (w : World) : IntRow base w (.slice none 0 0) [] := World.ownsRow_nil _ _ _ _
/-- What a row is to a reader: a slice of so many, each cell a digit. -/
theorem IntRow.read {base : Nat} {w : World} {v : Value} {l : List Nat} (h : IntRow base w v l) :
    (l = [] ∧ v = .slice none 0 0) ∨ ∃ g cap, v = .slice (some ⟨g, 0, none⟩) l.length cap ∧ base ≤ g ∧ g < w.heap.size ∧ l.length ≤ cap ∧ cap ≤ maxLen ∧ ∀ j (hj : j < l.length), w.cell? ⟨g, j, none⟩ = some (.int .i64 (l[j] : Int)) ∧ w.frozen? ⟨g, j, none⟩ = false := by
  obtain ⟨h1, h2⟩ := id h
  rcases h2 with ⟨hv, hn⟩ | ⟨g, cap, cur, hv, hg, hh, hc, hm, hs, ht⟩
  · exact .inl ⟨List.eq_nil_of_length_eq_zero hn, hv⟩
  · refine .inr ⟨g, cap, hv, hg, (Array.getElem?_eq_some_iff.1 hh).1, hc, hm, fun j hj => ?_⟩
    have h' : w.ownsRow base 3 1 (.slice (some ⟨g, 0, none⟩) l.length cap) l.length (l.map fun d : Nat => Value.int .i64 (d : Int)) := by rw [← hv]; exact h
    refine ⟨?_, World.ownsRow.frozenAt h' j⟩
    rw [World.ownsRow.cellAt h' j (by omega), List.getElem?_map, List.getElem?_eq_getElem hj]
    rfl
/-- A row stands in every later world. -/
theorem IntRow.later {base : Nat} {w w' : World} {v : Value} {l : List Nat} (h : IntRow base w v l) (hb : Below w.heap.size w w') : IntRow base w' v l := by
  obtain ⟨h1, h2⟩ := h
  refine ⟨h1, ?_⟩
  rcases h2 with h2 | ⟨g, cap, cur, hv, hg, hh, r⟩
  · exact .inl h2
  · exact .inr ⟨g, cap, cur, hv, hg, (hb.block g (Array.getElem?_eq_some_iff.1 hh).1).trans hh, r⟩
theorem IntRow.base {base base' : Nat} {w : World} {v : Value} {l : List Nat} (h : IntRow base w v l) (hb : base' ≤ base) : IntRow base' w v l := by
  obtain ⟨h1, h2⟩ := h
  refine ⟨h1, ?_⟩
  rcases h2 with h2 | ⟨g, cap, cur, hv, hg, r⟩
  · exact .inl h2
  · exact .inr ⟨g, cap, cur, hv, Nat.le_trans hb hg, r⟩
theorem IntRow.own {base : Nat} {w : World} {v : Value} {l : List Nat} (h : IntRow base w v l) : ∀ k, v.ownBlock = some k → base ≤ k := by
  rcases h.2 with ⟨hv, _⟩ | ⟨g, cap, cur, hv, hg, _⟩
  · intro k hk; rw [hv] at hk; cases hk
  · intro k hk
    rw [hv] at hk
    have : g = k := Option.some.inj hk
    omega
/-- What append leaves is a row of one more. -/
theorem IntRow.snoc {base : Nat} {w : World} {v : Value} {l : List Nat} {d : Nat} {x : Int} (hx : x = (d : Int)) (h : w.ownsRow base 3 1 v (l.length + 1) ((l.map fun d : Nat => Value.int .i64 (d : Int)) ++ [.int .i64 x])) : IntRow base w v (l ++ [d]) := by
  subst hx
  unfold IntRow
  simpa using h

/-- The row of a decimal's digits at a scale: noughts, then the digits, the lowest first. -/
def rowOf (ds : ByteArray) (k : Nat) : List Nat := List.replicate k 0 ++ (dl ds).reverse
theorem rowOf_length (ds : ByteArray) (k : Nat) : (rowOf ds k).length = k + ds.size := by simp [rowOf, dl_length]
theorem rowOf_lt {ds : ByteArray} (h : AllDig ds) (k : Nat) : ∀ d ∈ rowOf ds k, d < 10 := fun d hd => by
  rcases List.mem_append.1 hd with h1 | h1
  · have := (List.mem_replicate.1 h1).2; omega
  · exact dl_lt h d (by simpa using h1)
theorem rowval_rowOf (ds : ByteArray) (k : Nat) : rowval (rowOf ds k) = dval ds * 10 ^ k := by
  unfold rowOf dval
  rw [rowval_append, rowval_zeros, List.length_replicate, Nat.zero_add, Nat.mul_comm]

theorem rev_take (ds : ByteArray) (p : Nat) (h : p < ds.size) : (dl ds).reverse.take (ds.size - p) = (dl ds).reverse.take (ds.size - (p + 1)) ++ [((bt ds p).toNat - 48 : Nat)] := by
  have e : ds.size - p = (ds.size - (p + 1)) + 1 := by omega
  have hl : (dl ds).reverse.length = ds.size := by rw [List.length_reverse, dl_length]
  rw [e, List.take_succ_eq_append_getElem (by rw [hl]; omega)]
  congr 2
  rw [List.getElem_reverse]
  have e2 : (dl ds).length - 1 - (ds.size - (p + 1)) = p := by rw [dl_length]; omega
  have h1 := dl_get ds p h
  simp only [e2]
  omega

set_option maxRecDepth 100000 in
set_option maxHeartbeats 2000000 in
theorem rRow_any (neg : Bool) (ds : ByteArray) (sc scale : Int) (w : World) (hd : AllDig ds) (h1 : ds.size ≤ 100000) (h2 : 0 ≤ sc) (h3 : scale ≤ 100000) :
    Calls Tryd.prog 20 #[.agg #[.bool neg, .string ds, .int .i64 sc], .int .i64 scale] w fun e w' => ∃ v, e = .returned v ∧ IntRow w.heap.size w' v (rowOf ds (scale - sc).toNat) ∧ Below w.heap.size w w' := by
  have hb := get_bt ds
  obtain ⟨i0, hi, hz0, hz1, hz2⟩ := info_parts infoInt
  go_enter Tryd.func20, Tryd.ntmps20
  go_wp2
  have hz : (w.alloc (.cells #[.bool neg, .string ds, .int .i64 sc] 23)).heap.size = w.heap.size + 1 := World.size_alloc _ _
  have hq : (w.alloc (.cells #[.bool neg, .string ds, .int .i64 sc] 23)).cell? ⟨w.heap.size, 1, none⟩ = some (.string ds) := by go_simp
  have hB0 := (Below.refl w.heap.size w).alloc (Nat.le_refl _) (.cells #[.bool neg, .string ds, .int .i64 sc] 23)
  generalize w.alloc (.cells #[.bool neg, .string ds, .int .i64 sc] 23) = W0 at *
  have HZ := Lib.hid hz; clear hz
  obtain ⟨N, hN⟩ : ∃ N, (scale - sc).toNat = N := ⟨_, rfl⟩
  have HN := Lib.hid hN; clear hN
  have hNb : N ≤ 100000 := by have := HN.out; omega
  go_loopw [5, 6] (fun v i wr => ∃ k : Nat, k ≤ N ∧ i = .int .i64 (sc + k) ∧ IntRow (w.heap.size + 1) wr v (List.replicate k 0) ∧ Below (w.heap.size + 1) W0 wr) (fun _ i _ => (scale - intOf i).toNat)
  case atStart => exact ⟨0, Nat.zero_le _, by simp, IntRow.nil _ _, Below.refl _ _⟩
  case round =>
    obtain ⟨k, hk, rfl, hrow, hB⟩ := hrel
    have hsz := hB.size
    have hsz2 : w.heap.size + 1 ≤ wr.heap.size := by have := HZ.out; omega
    by_cases hlt : sc + (k : Int) < scale
    · have hkN : k + 1 ≤ N := by have := HN.out; omega
      have hown := hrow
      unfold IntRow at hown
      rw [List.length_replicate] at hown
      go_wp2_with (at_builtin; refine wpList_append_own _ rfl _ _ 40 rfl (w.heap.size + 1) 3 i0 (.int .i64 0) 1 8 Tryd.underlying40 hi hz0 hz1 hz2 rfl (by decide) _ _ _ rfl (hown.alloc _) ⟨wr.heap.size, 0, none⟩ 1 1 [.int .i64 0] rfl rfl ?c1 ?c2 ?c3 ?c4 ?c5 ?_)
      case c1 => exact cell_one_new _ _ _
      case c2 => simp [Value.oneCell']
      case c3 => unfold maxLen; omega
      case c4 => omega
      case c5 => simp; omega
      intro v' w1 hown' hgrow hne
      have hB' := (hB.alloc hsz2 (.cells #[.int .i64 0] 3)).grown hgrow (by simp; omega) hrow.own
      have hrow' : IntRow (w.heap.size + 1) w1 v' (List.replicate (k + 1) 0) := by
        rw [List.replicate_succ']
        exact IntRow.snoc (l := List.replicate k 0) (d := 0) rfl (by simpa using hown')
      clear hne hown' hgrow hown
      go_wp2
      go_roundw
      case rel => exact ⟨k + 1, hkN, by go_num, hrow', hB'⟩
      case measure => simp [intOf]; omega
    · have hkN : k = N := by have := HN.out; omega
      subst hkN
      have hq1 : wr.cell? ⟨w.heap.size, 1, none⟩ = some (.string ds) := (hB.cell (p := ⟨w.heap.size, 1, none⟩) (by simp)).trans hq
      go_wp2
      have hdl : ∀ p, p < ds.size → 48 ≤ bt ds p ∧ bt ds p ≤ 57 := hd
      have HD := Lib.hid hdl; clear hdl hd
      have HQ := Lib.hid hq1
      have hrow0 : IntRow (w.heap.size + 1) wr u5 (List.replicate k 0 ++ (dl ds).reverse.take (ds.size - ds.size)) := by simpa using hrow
      clear hrow
      go_loopw [5, 7] (fun v j w2 => ∃ m : Nat, m ≤ ds.size ∧ j = .int .i64 ((m : Int) - 1) ∧ IntRow (w.heap.size + 1) w2 v (List.replicate k 0 ++ (dl ds).reverse.take (ds.size - m)) ∧ Below (w.heap.size + 1) W0 w2) (fun _ j _ => (intOf j + 1).toNat)
      case atStart => exact ⟨ds.size, Nat.le_refl _, rfl, hrow0, hB⟩
      case round =>
        obtain ⟨m, hm, rfl, hrow, hB⟩ := hrel
        have hsz3 := hB.size
        have hsz4 : w.heap.size + 1 ≤ wr.heap.size := by have := HZ.out; omega
        cases m with
        | zero =>
          go_wp2
          go_ret
          refine ⟨_, rfl, ?_, hB0.trans (hB.mono (by simp))⟩
          rw [HN.out]
          have h := hrow
          rw [Nat.sub_zero, List.take_of_length_le (by rw [List.length_reverse, dl_length]; omega)] at h
          exact h.base (by simp)
        | succ p =>
          have e1 : ((p + 1 : Nat) : Int) - 1 = (p : Int) := by omega
          rw [e1]
          have hp : p < ds.size := by omega
          obtain ⟨hd1, hd2⟩ := HD.out p hp
          have hq2 : wr.cell? ⟨w.heap.size, 1, none⟩ = some (.string ds) := (hB.cell (p := ⟨w.heap.size, 1, none⟩) (by simp)).trans hq
          have hown := hrow
          have hlen : (List.replicate k 0 ++ (dl ds).reverse.take (ds.size - (p + 1))).length ≤ 200000 := by simp [dl_length]; omega
          unfold IntRow at hown
          generalize hL : List.replicate k 0 ++ (dl ds).reverse.take (ds.size - (p + 1)) = L at *
          have HL := Lib.hid hL; clear hL
          go_wp2_with (at_builtin; refine wpList_append_own _ rfl _ _ 40 rfl (w.heap.size + 1) 3 i0 (.int .i64 0) 1 8 Tryd.underlying40 hi hz0 hz1 hz2 rfl (by decide) _ _ _ rfl (hown.alloc _) ⟨wr.heap.size, 0, none⟩ 1 1 [.int .i64 (bt ds p - 48)] rfl rfl ?c1 ?c2 ?c3 ?c4 ?c5 ?_)
          case c1 => exact cell_one_new _ _ _
          case c2 => simp [Value.oneCell']
          case c3 => unfold maxLen; omega
          case c4 => omega
          case c5 => simp; omega
          intro v' w1 hown' hgrow hne
          have hB' := (hB.alloc hsz4 (.cells #[.int .i64 (bt ds p - 48)] 3)).grown hgrow (by simp; omega) hrow.own
          have hrow' : IntRow (w.heap.size + 1) w1 v' (List.replicate k 0 ++ (dl ds).reverse.take (ds.size - p)) := by
            rw [rev_take ds p hp, ← List.append_assoc, HL.out]
            exact IntRow.snoc (by omega) hown'
          clear hne hown' hgrow hown
          go_wp2
          go_roundw
          case rel => exact ⟨p, by omega, by go_num, hrow', hB'⟩
          case measure => first | (simp [intOf]; done) | (simp [intOf]; omega)
end Go.Proofs.YtgccppilhbannaaDoor
