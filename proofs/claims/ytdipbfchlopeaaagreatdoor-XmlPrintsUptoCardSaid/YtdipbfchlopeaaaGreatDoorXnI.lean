/-
  Does XML take all of a text? (Escape's first step.)
  sync.Once's slow road, in parts (after the kit's worked Lazy texts).
  strings.NewReplacer at Escape's eight texts.
  strings.Replacer's build at Escape's eight texts.
  The Replacer's work on a text: Escape's table.
  Escape, whole: the Replacer is built once, then it works.
-/
import Derived.Test.YtdipbfchlopeaaaGreatDoorXnH
import Derived.Laws.LoneSync
import Derived.RegionTactic
import Derived.RegionCalls
import Derived.Great.Walk
import Derived.Laws.Cover3
import Derived.Laws.OwnMore
import Derived.Laws.CopyRow
import Derived.Deep.OwnRows
import Derived.Deep.DeepCutAuto
namespace Go.Proofs.YtdipbfchlopeaaaGreatDoor
section
open Go.RowKit Go.PlainAid

/-- What is wrong with a text that is to be written. -/
def takenE (s : ByteArray) : Int := if 0 ≤ brk s 0 then 6 else if takenX s = true then 0 else 2
theorem field_spot (a b : Int) (W : World) : (Instr.field 34 (.agg #[.int .i64 a, .int .i64 b]) 0).run Tryz.prog W = .ok (.int .i64 a) W := by simp [Instr.field, asAgg, go_sem]
theorem takenF_end {s : ByteArray} {f p : Nat} (h : s.size ≤ p) : takenF s (f + 1) p = true := by
  conv => lhs; unfold takenF
  rw [if_pos h]
theorem takenF_go {s : ByteArray} {f p : Nat} (h : p < s.size) (h2 : rChar (rn s p) = true) : takenF s (f + 1) p = takenF s f (p + wd s p) := by
  conv => lhs; unfold takenF
  rw [if_neg (by omega), if_pos h2]
theorem takenF_no {s : ByteArray} {f p : Nat} (h : p < s.size) (h2 : rChar (rn s p) = false) : takenF s (f + 1) p = false := by
  conv => lhs; unfold takenF
  rw [if_neg (by omega), if_neg (by rw [h2]; simp)]

set_option maxRecDepth 100000 in
set_option maxHeartbeats 4000000 in
theorem taken_any (s : ByteArray) (w : World) (hz : s.size ≤ 1000000000000000) :
    Calls Tryz.prog 59 #[.string s] w fun e w' => e = .returned (.int .i64 (takenE s)) ∧ Below w.heap.size w w' := by
  have hck := check_any s w hz
  by_cases hbk : 0 ≤ brk s 0
  · have hx : takenE s = 6 := by unfold takenE; rw [if_pos hbk]
    rw [show spotV (brk s 0) = .agg #[.int .i64 6, .int .i64 (brk s 0)] by unfold spotV; rw [if_pos hbk]] at hck
    have HX := Lib.hid hx
    have hfs := fun W => field_spot 6 (brk s 0) W
    clear hbk hx
    go_enter Tryz.func59, Tryz.ntmps59
    go_wp2_with fail
    refine hck.mono ?_
    rintro e w1 ⟨rfl, hB⟩
    go_wp2_with fail
    go_ret
    exact ⟨ret_int HX.out.symm, hB⟩
  · have hx : takenE s = if takenF s (s.size + 1) 0 = true then 0 else 2 := by unfold takenE takenX; rw [if_neg hbk]
    rw [show spotV (brk s 0) = .agg #[.int .i64 0, .int .i64 0] by unfold spotV; rw [if_neg hbk]] at hck
    have HX := Lib.hid hx; have HBK := Lib.hid hbk
    have hfs := fun W => field_spot 0 0 W
    clear hbk hx
    go_enter Tryz.func59, Tryz.ntmps59
    go_wp2_with fail
    refine hck.mono ?_
    rintro e w1 ⟨rfl, hB⟩
    have HB := Lib.hid hB
    clear hck hB
    go_wp2_with fail
    go_loopg [] (s.size + 1) (fun f wx => ∃ pos g : Nat, wx = w1.alloc (.stringIter s pos) ∧ f + pos = s.size + 1 ∧ pos ≤ s.size ∧ s.size < pos + g ∧ ¬ 0 ≤ brk s pos ∧ takenF s (s.size + 1) 0 = takenF s g pos)
    case atStart => exact ⟨0, s.size + 1, rfl, by omega, Nat.zero_le _, by omega, (by have := HBK.out; omega), rfl⟩
    case round =>
      obtain ⟨pos, g, rfl, hg, hp, hgf, hbk, hb⟩ := hrel
      obtain ⟨g, rfl⟩ : ∃ k, g = k + 1 := ⟨g - 1, by omega⟩
      have HG := Lib.hid (And.intro hg (And.intro hgf hbk)); have HT := Lib.hid hb
      clear hg hgf hbk hb
      by_cases hlt : pos < s.size
      · have hnx := next_at (P := Tryz.prog) (b := w1.heap.size) rfl s pos hlt
        have hbs := brk_step s pos hlt
        have hr0 : ¬ rn s pos < 0 := fun h => HG.out.2.2 (by rw [hbs, if_pos h]; omega)
        have hrr := rn_right s pos hr0
        have hch := fun W => char_any ((Utf8.decode s pos).1 : Int) W
        rw [← hrr] at hch hnx
        have hin := wd_in s pos hlt
        have hwp := wd_pos s pos hlt
        rw [if_neg hr0] at hbs
        have hbk2 : ¬ 0 ≤ brk s (pos + wd s pos) := by rw [← hbs]; exact HG.out.2.2
        have HW := Lib.hid (And.intro hin (And.intro hwp hbk2))
        clear hbs hr0 hrr hin hwp hbk2
        cases hc : rChar (rn s pos) with
        | true =>
          rw [hc] at hch
          have HT2 := Lib.hid (HT.out.trans (takenF_go hlt hc))
          clear hc hlt
          go_wp2_with fail
          refine (hch _).mono ?_
          rintro e w' ⟨rfl, rfl⟩
          go_wp2_with fail
          go_roundg (s.size + 1 - (pos + wd s pos))
          case rel => exact ⟨pos + wd s pos, g, rfl, by have := HW.out; omega, HW.out.1, by have := HW.out; have := HG.out; omega, HW.out.2.2, HT2.out⟩
          case measure => have := HW.out; have := HG.out; omega
        | false =>
          rw [hc] at hch
          have HT2 := Lib.hid (HT.out.trans (takenF_no hlt hc))
          clear hc hlt
          go_wp2_with fail
          refine (hch _).mono ?_
          rintro e w' ⟨rfl, rfl⟩
          go_wp2_with fail
          first | go_ret | go_returns
          refine ⟨ret_int ?_, HB.out.trans (((Below.refl _ _).alloc (Nat.le_refl _) _).mono HB.out.size)⟩
          rw [HX.out, HT2.out]
          rfl
      · have hnx := next_end (P := Tryz.prog) (b := w1.heap.size) rfl s pos hlt
        have HT2 := Lib.hid (HT.out.trans (takenF_end (by omega)))
        clear hlt
        go_wp2_with fail
        first | go_ret | go_returns
        refine ⟨ret_int ?_, HB.out.trans (((Below.refl _ _).alloc (Nat.le_refl _) _).mono HB.out.size)⟩
        rw [HX.out, HT2.out]
        rfl
end

section
open Go.RowKit Go.PlainAid

theorem disable (w : World) : (callFunc 164 #[]).run Tryz.prog w = .ok (.value (.tuple #[])) w := run_call_mark0 Tryz.func164 (by kernel_rfl) (by kernel_rfl) (by kernel_rfl) .disable (by kernel_rfl) w
theorem enable (w : World) : (callFunc 166 #[]).run Tryz.prog w = .ok (.value (.tuple #[])) w := run_call_mark0 Tryz.func166 (by kernel_rfl) (by kernel_rfl) (by kernel_rfl) .enable (by kernel_rfl) w
theorem acquire (a : Addr) (w : World) : (callFunc 167 #[.pointer (some a)]).run Tryz.prog w = .ok (.value (.tuple #[])) w := run_call_marked Tryz.func167 (by kernel_rfl) (by kernel_rfl) (by kernel_rfl) .acquire (by kernel_rfl) a w
theorem releaseMerge (a : Addr) (w : World) : (callFunc 169 #[.pointer (some a)]).run Tryz.prog w = .ok (.value (.tuple #[])) w := run_call_marked Tryz.func169 (by kernel_rfl) (by kernel_rfl) (by kernel_rfl) .releaseMerge (by kernel_rfl) a w

set_option maxRecDepth 100000 in
theorem store_deferred (a : Addr) (x : Value) (u : FrameMode) (w : World) (hc : w.cell? a = some x) (hz : w.frozen? a = false) :
    CallsD Tryz.prog 141 #[.pointer (some a), .bool true] u w fun e u' w' => u' = u ∧ (e = .returned (.tuple #[]) ∧ w' = w.drew.setCell a (.int .u32 1)) := by
  have hc' : w.drew.cell? a = some x := by go_simp
  have hz' : w.drew.frozen? a = false := by go_simp
  have hst := run_call_store (P := Tryz.prog) Tryz.func157 (by kernel_rfl) (by kernel_rfl) (by kernel_rfl) (by kernel_rfl) (k := .u32) (y := 1) hc' hz'
  go_enter_d Tryz.func141, Tryz.ntmps141
  go_wp2
  go_region_calls
  all_goals (go_end0; exact ⟨rfl, rfl⟩)

set_option maxRecDepth 100000 in
theorem unlock_deferred (a : Addr) (u : FrameMode) (w : World) (hc : w.cell? a = some (.int .i32 1)) (hz : w.frozen? a = false) :
    CallsD Tryz.prog 140 #[.pointer (some a)] u w fun e u' w' => u' = u ∧ (e = .returned (.tuple #[]) ∧ w' = w.setCell a (.int .i32 0)) := by
  have hd := disable
  have he := enable
  have hr := releaseMerge
  have hadd := run_call_add (P := Tryz.prog) Tryz.func170 (by kernel_rfl) (by kernel_rfl) (by kernel_rfl) .i32 (by kernel_rfl) (y := -1) (s := 0) hc hz (by simp [go_sem]; rfl)
  have hcv := run_convert_to_unsafe (P := Tryz.prog) (src := 211) (dst := 148) Tryz.underlying211 Tryz.underlying148 (by kernel_rfl) hc
  go_enter_d Tryz.func140, Tryz.ntmps140
  go_wp2
  go_end0
  go_wp2

set_option maxRecDepth 100000 in
theorem lock_free (a : Addr) (w : World) (hc : w.cell? a = some (.int .i32 0)) (hz : w.frozen? a = false) :
    Calls Tryz.prog 139 #[.pointer (some a)] w fun e w' => e = .returned (.tuple #[]) ∧ w' = w.setCell a (.int .i32 1) := by
  have hd := disable
  have he := enable
  have ha := acquire
  have hcas := run_call_cas_hit (P := Tryz.prog) Tryz.func165 (by kernel_rfl) (by kernel_rfl) (by kernel_rfl) .i32 (by kernel_rfl) (y := 1) hc hz
  have hc' : (w.setCell a (.int .i32 1)).cell? a = some (.int .i32 1) := World.cell?_setCell_same w a _ hc
  have hcv := run_convert_to_unsafe (P := Tryz.prog) (src := 211) (dst := 148) Tryz.underlying211 Tryz.underlying148 (by kernel_rfl) hc'
  go_enter Tryz.func139, Tryz.ntmps139
  go_wp2
  first | go_end0 | (simp only [Exit.inBlock, Exit.then]; refine bodyPost_ret (results_none rfl _ _ _) rfl ?_) | refine bodyPost_ret (results_none rfl _ _ _) rfl ?_
  go_wp2
end

section
open Go.RowKit Go.PlainAid

/-- Several elements put behind. -/
theorem wpList_more_g {α : Type} (E : ETy α) {ops : Array Oper} {rest : List Oper} {o : Oper} {a : Act} {Q : Exit → Act → World → Prop} {w : World} (xs : List α) (hgd : o.guard = none) (s y : Operand)
    (ho : o.op = .call { callee := .builtin .append, args := #[s, y], argTypes := #[E.ST, E.ST] })
    (base : Nat) (v : Value) (l : List α) (hs : a.eval s = v) (hrow : GRow E base w v l) (c : Nat) (g : Nat) (hx : a.eval y = .slice (some ⟨g, 0, none⟩) xs.length c) (hg : Blk w g (E.cs xs).toArray) (hlen : l.length ≤ 100000000) (hxl : xs.length ≤ 1000)
    (hz : base ≤ w.heap.size)
    (h : ∀ v' w', GRow E base w' v' (l ++ xs) → w.grownBy w' v.ownBlock → wpList Tryz.prog ops Q rest (a.put o.dst v') w') : wpList Tryz.prog ops Q (o :: rest) a w := by
  obtain ⟨i0, hi, hz0, hz1, hz2⟩ := info_parts E.info
  refine wpList_append_own _ hgd s y E.ST ho base E.T i0 E.z E.sz E.bs E.und hi hz0 hz1 hz2 E.hz E.hsz v l.length _ hs hrow ⟨g, 0, none⟩ xs.length c (E.cs xs) hx (by rw [E.cs_len]) (fun j u hu => ?_) (fun u hu => ?_) (by unfold maxLen; omega) ?_ hz ?_
  · rw [Lib.add_plain, hg.cell, Nat.zero_add]
    simpa using hu
  · unfold ETy.cs at hu
    rw [List.mem_flatMap] at hu
    obtain ⟨x, _, hu⟩ := hu
    exact E.hone x u hu
  · calc (l.length + xs.length) * E.bs ≤ (l.length + xs.length) * 1000 := Nat.mul_le_mul_left _ E.hbs
      _ ≤ 140737488355328 := by omega
  intro v' w' hown' hgrow _
  refine h v' w' ?_ hgrow
  unfold GRow
  have e : E.cs (l ++ xs) = E.cs l ++ E.cs xs := by unfold ETy.cs; simp
  rw [e, List.length_append]
  exact hown'
/-- The eight texts of Escape. -/
def esc8 : List ByteArray := [⟨#[38]⟩, ⟨#[38, 97, 109, 112, 59]⟩, ⟨#[60]⟩, ⟨#[38, 108, 116, 59]⟩, ⟨#[62]⟩, ⟨#[38, 103, 116, 59]⟩, ⟨#[34]⟩, ⟨#[38, 113, 117, 111, 116, 59]⟩]
/-- A Replacer that was not used yet. -/
def RepNew (lo rp : Nat) (v : Value) (w : World) : Prop := w.heap[rp]? = some (.cells #[.int .u32 0, .int .i32 0, .int .u32 0, .nilIface, v] 144 (0, 0)) ∧ GRow StrE lo w v esc8

set_option maxRecDepth 100000 in
set_option maxHeartbeats 2000000 in
theorem newReplacer_any (g cap : Nat) (w : World) (hg : Blk w g (StrE.cs esc8).toArray) :
    Calls Tryz.prog 60 #[.slice (some ⟨g, 0, none⟩) 8 cap] w fun en w' => ∃ rp v, en = .returned (.pointer (some ⟨rp, 0, none⟩)) ∧ w.heap.size ≤ rp ∧ RepNew w.heap.size rp v w' ∧ Below w.heap.size w w' := by
  have hrow := GRow.nil StrE w.heap.size w
  have HG := Lib.hid hg
  clear hg
  go_enter Tryz.func60, Tryz.ntmps60
  go_wp2_with (at_builtin; go_must (refine wpList_more_g StrE (xs := esc8) rfl _ _ rfl w.heap.size (.slice none 0 0) [] rfl hrow _ g rfl HG.out (by simp) (by decide) (Nat.le_refl _) ?_); intro v' w6 hrow6 hg6; obtain ⟨a', n', c', rfl⟩ := hrow6.form')
  go_ret
  have hB := grown_below hg6 (Nat.le_refl _) (fun k hk => by simp [Value.ownBlock] at hk)
  have hA := (Below.refl w6.heap.size w6).alloc (Nat.le_refl _) (.cells #[.int .u32 0, .int .i32 0, .int .u32 0, .nilIface, .slice a' n' c'] 144)
  exact ⟨_, _, rfl, hB.size, ⟨push_new _ _ _ rfl, hrow6.on hA⟩, hB.trans (hA.mono hB.size)⟩
end

section
open Go.RowKit Go.PlainAid Go.Great

theorem esc_cells {lo og oc : Nat} {w : World} (h : GRow StrE lo w (.slice (some ⟨og, 0, none⟩) 8 oc) esc8) :
    w.cell? ⟨og, 0, none⟩ = some (.string ⟨#[38]⟩) ∧
    w.cell? ⟨og, 1, none⟩ = some (.string ⟨#[38, 97, 109, 112, 59]⟩) ∧
    w.cell? ⟨og, 2, none⟩ = some (.string ⟨#[60]⟩) ∧
    w.cell? ⟨og, 3, none⟩ = some (.string ⟨#[38, 108, 116, 59]⟩) ∧
    w.cell? ⟨og, 4, none⟩ = some (.string ⟨#[62]⟩) ∧
    w.cell? ⟨og, 5, none⟩ = some (.string ⟨#[38, 103, 116, 59]⟩) ∧
    w.cell? ⟨og, 6, none⟩ = some (.string ⟨#[34]⟩) ∧
    w.cell? ⟨og, 7, none⟩ = some (.string ⟨#[38, 113, 117, 111, 116, 59]⟩) := by
  rcases h.read with ⟨e, _⟩ | ⟨g, cap, hv, _, _, _, _, hc⟩
  · cases e
  · injection hv with e1 _ _
    injection e1 with e1
    injection e1 with e1
    subst e1
    exact ⟨hc 0 (by decide) 0 (by decide), hc 1 (by decide) 0 (by decide), hc 2 (by decide) 0 (by decide), hc 3 (by decide) 0 (by decide), hc 4 (by decide) 0 (by decide), hc 5 (by decide) 0 (by decide), hc 6 (by decide) 0 (by decide), hc 7 (by decide) 0 (by decide)⟩

theorem bsr_zero : Tryz.zeroCells190 = Array.replicate 257 (.slice none 0 0) := by kernel_rfl
/-- What build lays at first. -/
noncomputable def bsr0 (a : Option Addr) (n c : Nat) : Array Value := (Tryz.zeroCells190.toList.set 256 (.slice a n c)).toArray
theorem bsr0_size (a : Option Addr) (n c : Nat) : (bsr0 a n c).size = 257 := by
  unfold bsr0
  rw [bsr_zero, List.size_toArray, List.length_set, Array.length_toList, Array.size_replicate]
theorem bsr_len (a : Option Addr) (n c : Nat) : (Tryz.zeroCells190.toList.set 256 (.slice a n c)).length = Tryz.zeroCells190.size := by simp
theorem bsr_one (a : Option Addr) (n c : Nat) : ∀ v ∈ Tryz.zeroCells190.toList.set 256 (.slice a n c), v.oneCell' = true := by
  intro v hv
  rcases List.mem_or_eq_of_mem_set hv with h | rfl
  · rw [bsr_zero, Array.toList_replicate, List.mem_replicate] at h
    rw [h.2]
    rfl
  · rfl
theorem run_store_bsr (w : World) (a : Option Addr) (n c g : Nat) (h : w.heap[g]? = some (.cells Tryz.zeroCells190 190 (0, 0))) :
    (storeCells ⟨g, 0, none⟩ (Tryz.zeroCells190.toList.set 256 (.slice a n c))).run Tryz.prog w = .ok () (w.setRow g (bsr0 a n c)) := by
  have h1 := run_storeCells_from (P := Tryz.prog) g 190 (Tryz.zeroCells190.toList.set 256 (.slice a n c)) 0 Tryz.zeroCells190 w h (by rw [Nat.zero_add]; exact bsr_len a n c) (bsr_one a n c)
  rw [List.take_zero, List.nil_append] at h1
  exact h1
theorem eql_slice (a : Option Addr) (l c : Nat) (w : World) : (binOp .eql 78 (.slice a l c) (.slice none 0 0)).run Tryz.prog w = .ok (.bool a.isNone) w := by
  have h := run_equal_slice_nil (P := Tryz.prog) (w := w) 78 5 a l c Tryz.underlying78
  simp only [binOp]
  simp [h]
theorem kinds_ne2 {w : World} {k : Nat} {c c' : Array Value} {T T' : TypeId} {f f' : Nat × Nat} (h : w.heap[k]? = some (.cells c T f)) (h' : w.heap[k]? = some (.cells c' T' f')) (hT : T ≠ T') : False := by
  rw [h] at h'
  injection h' with h'
  injection h' with _ h'
  exact hT h'
/-- Bytes of a block of their own. -/
def RB (w : World) (g : Nat) (r : ByteArray) : Prop := ∃ cs fz, w.heap[g]? = some (.cells cs 5 fz) ∧ ∀ j, j < r.size → cs[j]? = some (.int .u8 (bt r j))
def rplL (L : List (Nat × ByteArray)) (c : Nat) : Option ByteArray := (L.find? (fun p => p.1 == c)).map (·.2)
/-- A byte's replacement in memory. -/
def RepC (lo : Nat) (w : World) (o : Option ByteArray) (x : Option Value) : Prop :=
  match o with
  | none => x = some (.slice none 0 0)
  | some r => ∃ g cap, x = some (.slice (some ⟨g, 0, none⟩) r.size cap) ∧ lo ≤ g ∧ RB w g r
/-- The replacer, as far as it is built. -/
structure Bsr (lo b : Nat) (L : List (Nat × ByteArray)) (cs : Array Value) (v : Value) (w : World) : Prop where
  blk : w.heap[b]? = some (.cells cs 190 (0, 0))
  size : cs.size = 257
  rep : ∀ c, c < 256 → RepC lo w (rplL L c) cs[c]?
  last : cs[256]? = some v
  row : GRow StrE lo w v (L.map fun p => (⟨#[p.1.toUInt8]⟩ : ByteArray))
  lo : lo ≤ b
theorem conv_blk (w : World) (s : ByteArray) : ∃ (cap : Nat) (w1 : World), (convert 9 78 (.string s)).run Tryz.prog w = .ok (.slice (some ⟨w.heap.size, 0, none⟩) s.size cap) w1 ∧ Below w.heap.size w w1 ∧ RB w1 w.heap.size s := by
  refine ⟨_, _, Lib.run_convert_string_bytes w _ _ 5 s Tryz.underlying9 Tryz.underlying78 Tryz.underlying5, ⟨rfl, rfl, rfl, by rw [Lib.bytesWorld_size]; omega, fun k hk => Lib.bytesWorld_at_old w _ s k hk⟩, ⟨_, _, Lib.bytesWorld_at_new w _ s, fun j hj => ?_⟩⟩
  have h := Lib.bytesWorld_cell w 5 s j hj
  rw [cellH (Lib.bytesWorld_at_new w 5 s) j] at h
  rw [h, ← get_bt s j hj]
  simp [List.getD, hj]
  rfl
theorem RB.later {w w' : World} {g : Nat} {r : ByteArray} (h : RB w g r) (hb : w'.heap[g]? = w.heap[g]?) : RB w' g r := by
  obtain ⟨cs, fz, h1, h2⟩ := h
  exact ⟨cs, fz, hb.trans h1, h2⟩
theorem RepC.later {lo : Nat} {w w' : World} {o : Option ByteArray} {x : Option Value} (h : RepC lo w o x) (hb : ∀ (g : Nat) c fz, w.heap[g]? = some (.cells c 5 fz) → w'.heap[g]? = w.heap[g]?) : RepC lo w' o x := by
  cases o with
  | none => exact h
  | some r =>
    obtain ⟨g, cap, h1, h2, h3⟩ := h
    obtain ⟨cs, fz, h4, _⟩ := id h3
    exact ⟨g, cap, h1, h2, h3.later (hb g cs fz h4)⟩
theorem rplL_snoc (L : List (Nat × ByteArray)) (o : Nat) (n : ByteArray) (c : Nat) (h : rplL L o = none) : rplL (L ++ [(o, n)]) c = if c = o then some n else rplL L c := by
  unfold rplL at h ⊢
  rw [List.find?_append]
  by_cases hc : c = o
  · subst hc
    rw [if_pos rfl]
    rw [Option.map_eq_none_iff] at h
    rw [h]
    simp
  · rw [if_neg hc]
    have : ([(o, n)] : List (Nat × ByteArray)).find? (fun p => p.1 == c) = none := by simp; omega
    rw [this]
    simp
/-- One pair more. -/
theorem Bsr.step {lo b o : Nat} {n : ByteArray} {L : List (Nat × ByteArray)} {cs : Array Value} {v v' : Value} {w w6 w8 : World} {o1 o2 : Obj} {cap : Nat} (h : Bsr lo b L cs v w) (ho : o < 256) (hn : rplL L o = none) (hlo : lo ≤ w.heap.size)
    (hr : GRow StrE lo w6 v' (L.map (fun p => (⟨#[p.1.toUInt8]⟩ : ByteArray)) ++ [⟨#[o.toUInt8]⟩])) (hg : ((w.alloc o1).alloc o2).grownBy w6 v.ownBlock)
    (hB : Below (w6.setCell ⟨b, 256, none⟩ v').heap.size (w6.setCell ⟨b, 256, none⟩ v') w8) (hR : RB w8 (w6.setCell ⟨b, 256, none⟩ v').heap.size n) :
    (∀ k, k < w.heap.size → v.ownBlock ≠ some k → w6.heap[k]? = w.heap[k]?) ∧ w.heap.size ≤ w6.heap.size ∧
    ∃ cs', Bsr lo b (L ++ [(o, n)]) cs' v' (w8.setCell ⟨b, o, none⟩ (.slice (some ⟨(w6.setCell ⟨b, 256, none⟩ v').heap.size, 0, none⟩) n.size cap)) := by
  have hkey : ∀ k, k < w.heap.size → v.ownBlock ≠ some k → w6.heap[k]? = w.heap[k]? := fun k hk hne =>
    (hg.block k (by simp; omega) (fun e => hne e.symm)).trans ((Lib.alloc_old _ _ k (by simp; omega)).trans (Lib.alloc_old w _ k hk))
  have hz6 : w.heap.size ≤ w6.heap.size := by
    have h1 := hg.size
    simp at h1
    omega
  have hvk : ∀ g, v.ownBlock = some g → ∃ c, w.heap[g]? = some (.cells c 9 (0, 0)) := fun g hg => h.row.kind g hg
  have hbw : b < w.heap.size := lt_some h.blk
  have hvb : v.ownBlock ≠ some b := fun e => by
    obtain ⟨c, hc⟩ := hvk b e
    exact kinds_ne hc h.blk (by decide)
  have hb6 := (hkey b hbw hvb).trans h.blk
  have hs7 : (w6.setCell ⟨b, 256, none⟩ v').heap.size = w6.heap.size := by simp [World.setCell]
  have hb7 := setH hb6 256 v'
  have hb8 := (hB.block b (by rw [hs7]; omega)).trans hb7
  have hsame : ∀ k, k < w.heap.size → v.ownBlock ≠ some k → k ≠ b → (w8.setCell ⟨b, o, none⟩ (.slice (some ⟨(w6.setCell ⟨b, 256, none⟩ v').heap.size, 0, none⟩) n.size cap)).heap[k]? = w.heap[k]? := fun k hk hne hx =>
    (Below.heap_setCell _ _ _ _ hx).trans ((hB.block k (by rw [hs7]; omega)).trans ((Below.heap_setCell _ _ _ _ hx).trans (hkey k hk hne)))
  refine ⟨hkey, hz6, _, ⟨setH hb8 o _, by simp [h.size], fun c hc => ?_, ?_, ?_, h.lo⟩⟩
  · rw [rplL_snoc L o n c hn]
    by_cases hco : c = o
    · subst hco
      rw [if_pos rfl]
      refine ⟨_, cap, Array.getElem?_setIfInBounds_self_of_lt (by simp [h.size]; omega), by rw [hs7]; omega, hR.later (Below.heap_setCell _ _ _ _ (by rw [hs7]; show w6.heap.size ≠ b; omega))⟩
    · rw [if_neg hco, Array.getElem?_setIfInBounds_ne (by omega), Array.getElem?_setIfInBounds_ne (by omega)]
      exact RepC.later (h.rep c hc) (fun g c fz hgc => hsame g (lt_some hgc) (fun e => by
        obtain ⟨c', hc'⟩ := hvk g e
        exact kinds_ne2 hc' hgc (by decide)) (fun e => by subst e; exact kinds_ne2 hgc h.blk (by decide)))
  · rw [Array.getElem?_setIfInBounds_ne (by omega)]
    exact Array.getElem?_setIfInBounds_self_of_lt (by rw [h.size]; omega)
  · rw [List.map_append]
    refine hr.later (fun g hv' => ?_)
    obtain ⟨c, hc⟩ := hr.kind g hv'
    have hgb : g ≠ b := fun e => by subst e; exact kinds_ne hc hb6 (by decide)
    exact (Below.heap_setCell _ _ _ _ hgb).trans ((hB.block g (by rw [hs7]; exact lt_some hc)).trans (Below.heap_setCell _ _ _ _ hgb))

set_option maxRecDepth 100000 in
set_option maxHeartbeats 4000000 in
theorem build_any (lo rp og oc : Nat) (w : World) (h4 : w.cell? ⟨rp, 4, none⟩ = some (.slice (some ⟨og, 0, none⟩) 8 oc)) (hrow : GRow StrE lo w (.slice (some ⟨og, 0, none⟩) 8 oc) esc8) :
    Calls Tryz.prog 112 #[.pointer (some ⟨rp, 0, none⟩)] w fun en w' => ∃ b cs v, en = .returned (.iface 191 (.pointer (some ⟨b, 0, none⟩))) ∧ w.heap.size ≤ b ∧ Below w.heap.size w w' ∧ Bsr w.heap.size b ([(34, (⟨#[38, 113, 117, 111, 116, 59]⟩ : ByteArray)), (62, (⟨#[38, 103, 116, 59]⟩ : ByteArray)), (60, (⟨#[38, 108, 116, 59]⟩ : ByteArray)), (38, (⟨#[38, 97, 109, 112, 59]⟩ : ByteArray))]) cs v w' := by
  obtain ⟨e0, e1, e2, e3, e4, e5, e6, e7⟩ := esc_cells hrow
  have z0 : (⟨#[38]⟩ : ByteArray).size = 1 := rfl
  have z1 : (⟨#[38, 97, 109, 112, 59]⟩ : ByteArray).size = 5 := rfl
  have z2 : (⟨#[60]⟩ : ByteArray).size = 1 := rfl
  have z3 : (⟨#[38, 108, 116, 59]⟩ : ByteArray).size = 4 := rfl
  have z4 : (⟨#[62]⟩ : ByteArray).size = 1 := rfl
  have z5 : (⟨#[38, 103, 116, 59]⟩ : ByteArray).size = 4 := rfl
  have z6 : (⟨#[34]⟩ : ByteArray).size = 1 := rfl
  have z7 : (⟨#[38, 113, 117, 111, 116, 59]⟩ : ByteArray).size = 6 := rfl
  have HROW := Lib.hid hrow
  have hen := fun W => eql_slice none 0 0 W
  simp only [Option.isNone_none] at hen
  clear hrow
  go_enter Tryz.func112, Tryz.ntmps112
  go_upto_region 6 with fail
  go_loopg [5, 4] 5 (fun f s5 s4 wx => w = wx ∧ ((f = 5 ∧ s5 = .int .i64 0 ∧ s4 = .bool true) ∨ (f = 4 ∧ s5 = .int .i64 2 ∧ s4 = .bool false) ∨ (f = 3 ∧ s5 = .int .i64 4 ∧ s4 = .bool false) ∨ (f = 2 ∧ s5 = .int .i64 6 ∧ s4 = .bool false) ∨ (f = 1 ∧ s5 = .int .i64 8 ∧ s4 = .bool false)))
  case atStart => exact ⟨rfl, .inl ⟨rfl, rfl, rfl⟩⟩
  case round =>
    obtain ⟨rfl, ⟨rfl, rfl, rfl⟩ | ⟨rfl, rfl, rfl⟩ | ⟨rfl, rfl, rfl⟩ | ⟨rfl, rfl, rfl⟩ | ⟨rfl, rfl, rfl⟩⟩ := hrel
    · go_wp2_with fail
      go_roundg 4
      case rel => exact ⟨rfl, .inr (.inl ⟨rfl, rfl, rfl⟩)⟩
      case measure => omega
    · go_wp2_with fail
      go_roundg 3
      case rel => exact ⟨rfl, .inr (.inr (.inl ⟨rfl, rfl, rfl⟩))⟩
      case measure => omega
    · go_wp2_with fail
      go_roundg 2
      case rel => exact ⟨rfl, .inr (.inr (.inr (.inl ⟨rfl, rfl, rfl⟩)))⟩
      case measure => omega
    · go_wp2_with fail
      go_roundg 1
      case rel => exact ⟨rfl, .inr (.inr (.inr (.inr ⟨rfl, rfl, rfl⟩)))⟩
      case measure => omega
    · go_upto_region 26 with fail
      obtain ⟨i0, hi, hz0, hz1, hz2⟩ := info_parts StrE.info
      obtain ⟨w6, hmk, hown, hgr⟩ := run_make_own (P := Tryz.prog) w w.heap.size 38 9 i0 _ 1 Tryz.underlying38 hi hz0 hz1 .i64 .i64 4 (by rw [hz2]; decide) (by decide) (Nat.le_refl _)
      have hmk : (Instr.makeSlice 38 (.int .i64 0) (.int .i64 4)).run Tryz.prog w = .ok (.slice (some ⟨w.heap.size, 0, none⟩) 0 4) w6 := hmk
      have hsv := run_store_bsr (w6.alloc (.cells Tryz.zeroCells190 190)) (some ⟨w.heap.size, 0, none⟩) 0 4 w6.heap.size (push_new _ _ _ rfl)
      go_upto_region 27 with fail
      clear hmk hsv
      have hlo := grown_below (v := .slice none 0 0) hgr (Nat.le_refl _) (fun k hk => by simp [Value.ownBlock] at hk)
      have hB0 : Bsr w.heap.size w6.heap.size [] (bsr0 (some ⟨w.heap.size, 0, none⟩) 0 4) (.slice (some ⟨w.heap.size, 0, none⟩) 0 4) ((w6.alloc (.cells Tryz.zeroCells190 190)).setRow w6.heap.size (bsr0 (some ⟨w.heap.size, 0, none⟩) 0 4)) := by
        refine ⟨setRow_heap _ _ _ _ _ _ (push_new _ _ _ rfl), bsr0_size _ _ _, fun c hc => ?_, ?_, ?_, hlo.size⟩
        · show (bsr0 (some ⟨w.heap.size, 0, none⟩) 0 4)[c]? = some (.slice none 0 0)
          unfold bsr0
          rw [bsr_zero, List.getElem?_toArray, List.getElem?_set_ne (by omega), Array.toList_replicate, List.getElem?_replicate, if_pos (by omega)]
        · show (bsr0 (some ⟨w.heap.size, 0, none⟩) 0 4)[256]? = _
          unfold bsr0
          rw [bsr_zero, List.getElem?_toArray, List.getElem?_set_self (by simp)]
        · refine GRow.later (w := w6) hown (fun g hg => ?_)
          have hgl : g < w6.heap.size := GRow.lt (E := StrE) (base := w.heap.size) (l := []) hown g hg
          rw [setRow_other _ _ _ _ (by omega)]
          exact Lib.alloc_old _ _ _ hgl
      have hK0 : Below w.heap.size w ((w6.alloc (.cells Tryz.zeroCells190 190)).setRow w6.heap.size (bsr0 (some ⟨w.heap.size, 0, none⟩) 0 4)) :=
        ⟨hlo.os, hlo.tape, hlo.output, by have := hlo.size; simp [World.setRow]; omega, fun k hk => by rw [setRow_other _ _ _ _ (by have := hlo.size; omega)]; exact (Lib.alloc_old _ _ _ (by have := hlo.size; omega)).trans (hlo.block k hk)⟩
      have hbl := hlo.size
      generalize (w6.alloc (.cells Tryz.zeroCells190 190)).setRow w6.heap.size (bsr0 (some ⟨w.heap.size, 0, none⟩) 0 4) = W at *
      generalize w6.heap.size = b at *
      generalize bsr0 (some ⟨w.heap.size, 0, none⟩) 0 4 = cs0 at *
      have HB0 := Lib.hid hB0; have HK0 := Lib.hid hK0; have HBL := Lib.hid hbl
      clear hB0 hK0 hown hgr hlo hbl hi hz0 hz1 hz2 i0
      go_upto_region 28 with fail
      go_loopg [12] 5 (fun f s12 wx => ∃ cs v, Below w.heap.size w wx ∧ ((f = 5 ∧ s12 = .int .i64 6 ∧ Bsr w.heap.size b ([]) cs v wx) ∨ (f = 4 ∧ s12 = .int .i64 4 ∧ Bsr w.heap.size b ([(34, (⟨#[38, 113, 117, 111, 116, 59]⟩ : ByteArray))]) cs v wx) ∨ (f = 3 ∧ s12 = .int .i64 2 ∧ Bsr w.heap.size b ([(34, (⟨#[38, 113, 117, 111, 116, 59]⟩ : ByteArray)), (62, (⟨#[38, 103, 116, 59]⟩ : ByteArray))]) cs v wx) ∨ (f = 2 ∧ s12 = .int .i64 0 ∧ Bsr w.heap.size b ([(34, (⟨#[38, 113, 117, 111, 116, 59]⟩ : ByteArray)), (62, (⟨#[38, 103, 116, 59]⟩ : ByteArray)), (60, (⟨#[38, 108, 116, 59]⟩ : ByteArray))]) cs v wx) ∨ (f = 1 ∧ s12 = .int .i64 (-2) ∧ Bsr w.heap.size b ([(34, (⟨#[38, 113, 117, 111, 116, 59]⟩ : ByteArray)), (62, (⟨#[38, 103, 116, 59]⟩ : ByteArray)), (60, (⟨#[38, 108, 116, 59]⟩ : ByteArray)), (38, (⟨#[38, 97, 109, 112, 59]⟩ : ByteArray))]) cs v wx)))
      case atStart => exact ⟨_, _, HK0.out, .inl ⟨rfl, rfl, HB0.out⟩⟩
      case round =>
        obtain ⟨cs, v, hK, ⟨rfl, rfl, hB⟩ | ⟨rfl, rfl, hB⟩ | ⟨rfl, rfl, hB⟩ | ⟨rfl, rfl, hB⟩ | ⟨rfl, rfl, hB⟩⟩ := hrel
        · have HK := Lib.hid hK; have HB := Lib.hid hB
          have k6 := cell_kept e6 hK
          have k7 := cell_kept e7 hK
          have hx0 : ∀ h, ((⟨#[34]⟩ : ByteArray)[0]'h).toNat = 34 := fun _ => rfl
          have hco : wr.cell? ⟨b, 34, none⟩ = some (.slice none 0 0) := (cellH hB.blk 34).trans (hB.rep 34 (by decide))
          have hc256 : wr.cell? ⟨b, 256, none⟩ = some v := (cellH hB.blk 256).trans hB.last
          obtain ⟨ta, tn, tc, hv⟩ := hB.row.form'
          subst hv
          have hbw := lt_some hB.blk
          have hzw := hK.size
          clear hK hB
          go_upto_region 33 with fail
          have hby : Lib.Bytes (wr.alloc (.cells #[.int .u8 34] 5)) wr.heap.size 0 (⟨#[34]⟩ : ByteArray) := fun i hi => by
            have : i = 0 := by
              have e : (⟨#[34]⟩ : ByteArray).size = 1 := rfl
              omega
            subst this
            exact (cellH (push_new _ _ _ rfl) 0)
          have hcv0 := Lib.run_convert_whole (P := Tryz.prog) (wr.alloc (.cells #[.int .u8 34] 5)) 78 5 9 Tryz.underlying78 Tryz.underlying5 Tryz.underlying9 _ _ _ hby 1
          have hcv : (convert 78 9 (.slice (some ⟨wr.heap.size, 0, none⟩) 1 1)).run Tryz.prog (wr.alloc (.cells #[.int .u8 34] 5)) = .ok (.string ⟨#[34]⟩) (wr.alloc (.cells #[.int .u8 34] 5)) := hcv0
          clear hcv0
          have hrowA : GRow StrE w.heap.size ((wr.alloc (.cells #[.int .u8 34] 5)).alloc (.cells #[.string (⟨#[34]⟩ : ByteArray)] 9)) (.slice ta tn tc) (([] : List (Nat × ByteArray)).map fun p => (⟨#[p.1.toUInt8]⟩ : ByteArray)) := (HB.out.row.on ((Below.refl _ _).alloc (Nat.le_refl _) _)).on ((Below.refl _ _).alloc (Nat.le_refl _) _)
          have hbase : w.heap.size ≤ ((wr.alloc (.cells #[.int .u8 34] 5)).alloc (.cells #[.string (⟨#[34]⟩ : ByteArray)] 9)).heap.size := by simp; omega
          have hown : (Value.slice ta tn tc).ownBlock ≠ some b := fun e => by
            obtain ⟨c, hc⟩ := HB.out.row.kind b e
            exact kinds_ne2 hc HB.out.blk (by decide)
          have hp6 : ∀ v' w6, GRow StrE w.heap.size w6 v' ((([] : List (Nat × ByteArray)).map fun p => (⟨#[p.1.toUInt8]⟩ : ByteArray)) ++ [⟨#[34]⟩]) → ((wr.alloc (.cells #[.int .u8 34] 5)).alloc (.cells #[.string (⟨#[34]⟩ : ByteArray)] 9)).grownBy w6 (Value.slice ta tn tc).ownBlock → w6.cell? ⟨b, 256, none⟩ = some (.slice ta tn tc) ∧ w6.frozen? ⟨b, 256, none⟩ = false ∧ w6.heap[b]? = wr.heap[b]? := fun v' w6 hr hg => by
            have hb6 : w6.heap[b]? = wr.heap[b]? := (hg.block b (by simp; omega) (fun e => hown e.symm)).trans ((Lib.alloc_old _ _ _ (by simp; omega)).trans (Lib.alloc_old _ _ _ hbw))
            exact ⟨(cellH (hb6.trans HB.out.blk) 256).trans HB.out.last, freeH (hb6.trans HB.out.blk) 256, hb6⟩
          have HP6 := Lib.hid hp6; have HROWA := Lib.hid hrowA
          clear hp6 hby hrowA hown
          go_upto_region 34 with (at_builtin; go_must (refine wpList_snoc_g StrE (x := (⟨#[34]⟩ : ByteArray)) rfl _ _ rfl w.heap.size (.slice ta tn tc) (([] : List (Nat × ByteArray)).map fun p => (⟨#[p.1.toUInt8]⟩ : ByteArray)) rfl HROWA.out 1 _ rfl (Blk.new' _ _ _ _ (World.size_alloc _ _).symm) (by decide) hbase ?_); intro v' w6 hrow6 hg6; obtain ⟨a', n', c', rfl⟩ := hrow6.form'; obtain ⟨c6, f6, hb6⟩ := HP6.out _ _ hrow6 hg6)
          obtain ⟨cap, w8, hcv8, hB8, hR8⟩ := conv_blk (w6.setCell ⟨b, 256, none⟩ (.slice a' n' c')) (⟨#[38, 113, 117, 111, 116, 59]⟩ : ByteArray)
          obtain ⟨hst1, hst2, cs', hst3⟩ := HB.out.step (cap := cap) (o := 34) (n := (⟨#[38, 113, 117, 111, 116, 59]⟩ : ByteArray)) (by decide) (by decide) hzw hrow6 hg6 hB8 hR8
          have hb8 : w8.heap[b]? = (w6.setCell ⟨b, 256, none⟩ (.slice a' n' c')).heap[b]? := hB8.block b (by simp [World.setCell]; omega)
          have hb7 := setH (hb6.trans HB.out.blk) 256 (.slice a' n' c')
          have co8 : w8.cell? ⟨b, 34, none⟩ = some (.slice none 0 0) := (cellH (hb8.trans hb7) 34).trans ((Array.getElem?_setIfInBounds_ne (by decide)).trans (HB.out.rep 34 (by decide)))
          have fo8 := freeH (hb8.trans hb7) 34
          have hK9 : Below w.heap.size w (w8.setCell ⟨b, 34, none⟩ (.slice (some ⟨(w6.setCell ⟨b, 256, none⟩ (.slice a' n' c')).heap.size, 0, none⟩) (⟨#[38, 113, 117, 111, 116, 59]⟩ : ByteArray).size cap)) := by
            have hlb := HB.out.lo
            have hs7 : (w6.setCell ⟨b, 256, none⟩ (.slice a' n' c')).heap.size = w6.heap.size := by simp [World.setCell]
            have hg1 := grown_below (v := .slice ta tn tc) hg6 hbase (fun g hg => HB.out.row.own g hg)
            have h2 : Below w.heap.size w w6 := HK.out.trans ((((Below.refl w.heap.size wr).alloc hzw _).alloc (by simp; omega) _).trans hg1)
            exact ((h2.setCell (by exact hlb) _).trans (hB8.mono (by rw [hs7]; exact h2.size))).setCell (by exact hlb) _
          have hs7 : (w6.setCell ⟨b, 256, none⟩ (.slice a' n' c')).heap.size = w6.heap.size := by simp [World.setCell]
          rw [hs7] at hK9 hst3
          have HK9 := Lib.hid hK9; have HST3 := Lib.hid hst3
          clear hs7
          clear hK9 hst1 hst2 hst3 hb8 hb7 hb6 c6 f6 hrow6 hg6 hB8 hR8 hcv hc256 hco
          go_wp2_with fail
          go_roundg 4
          case rel => exact ⟨_, _, HK9.out, .inr (.inl ⟨rfl, rfl, HST3.out⟩)⟩
          case measure => omega
        · have HK := Lib.hid hK; have HB := Lib.hid hB
          have k4 := cell_kept e4 hK
          have k5 := cell_kept e5 hK
          have hx0 : ∀ h, ((⟨#[62]⟩ : ByteArray)[0]'h).toNat = 62 := fun _ => rfl
          have hco : wr.cell? ⟨b, 62, none⟩ = some (.slice none 0 0) := (cellH hB.blk 62).trans (hB.rep 62 (by decide))
          have hc256 : wr.cell? ⟨b, 256, none⟩ = some v := (cellH hB.blk 256).trans hB.last
          obtain ⟨ta, tn, tc, hv⟩ := hB.row.form'
          subst hv
          have hbw := lt_some hB.blk
          have hzw := hK.size
          clear hK hB
          go_upto_region 33 with fail
          have hby : Lib.Bytes (wr.alloc (.cells #[.int .u8 62] 5)) wr.heap.size 0 (⟨#[62]⟩ : ByteArray) := fun i hi => by
            have : i = 0 := by
              have e : (⟨#[62]⟩ : ByteArray).size = 1 := rfl
              omega
            subst this
            exact (cellH (push_new _ _ _ rfl) 0)
          have hcv0 := Lib.run_convert_whole (P := Tryz.prog) (wr.alloc (.cells #[.int .u8 62] 5)) 78 5 9 Tryz.underlying78 Tryz.underlying5 Tryz.underlying9 _ _ _ hby 1
          have hcv : (convert 78 9 (.slice (some ⟨wr.heap.size, 0, none⟩) 1 1)).run Tryz.prog (wr.alloc (.cells #[.int .u8 62] 5)) = .ok (.string ⟨#[62]⟩) (wr.alloc (.cells #[.int .u8 62] 5)) := hcv0
          clear hcv0
          have hrowA : GRow StrE w.heap.size ((wr.alloc (.cells #[.int .u8 62] 5)).alloc (.cells #[.string (⟨#[62]⟩ : ByteArray)] 9)) (.slice ta tn tc) (([(34, (⟨#[38, 113, 117, 111, 116, 59]⟩ : ByteArray))] : List (Nat × ByteArray)).map fun p => (⟨#[p.1.toUInt8]⟩ : ByteArray)) := (HB.out.row.on ((Below.refl _ _).alloc (Nat.le_refl _) _)).on ((Below.refl _ _).alloc (Nat.le_refl _) _)
          have hbase : w.heap.size ≤ ((wr.alloc (.cells #[.int .u8 62] 5)).alloc (.cells #[.string (⟨#[62]⟩ : ByteArray)] 9)).heap.size := by simp; omega
          have hown : (Value.slice ta tn tc).ownBlock ≠ some b := fun e => by
            obtain ⟨c, hc⟩ := HB.out.row.kind b e
            exact kinds_ne2 hc HB.out.blk (by decide)
          have hp6 : ∀ v' w6, GRow StrE w.heap.size w6 v' ((([(34, (⟨#[38, 113, 117, 111, 116, 59]⟩ : ByteArray))] : List (Nat × ByteArray)).map fun p => (⟨#[p.1.toUInt8]⟩ : ByteArray)) ++ [⟨#[62]⟩]) → ((wr.alloc (.cells #[.int .u8 62] 5)).alloc (.cells #[.string (⟨#[62]⟩ : ByteArray)] 9)).grownBy w6 (Value.slice ta tn tc).ownBlock → w6.cell? ⟨b, 256, none⟩ = some (.slice ta tn tc) ∧ w6.frozen? ⟨b, 256, none⟩ = false ∧ w6.heap[b]? = wr.heap[b]? := fun v' w6 hr hg => by
            have hb6 : w6.heap[b]? = wr.heap[b]? := (hg.block b (by simp; omega) (fun e => hown e.symm)).trans ((Lib.alloc_old _ _ _ (by simp; omega)).trans (Lib.alloc_old _ _ _ hbw))
            exact ⟨(cellH (hb6.trans HB.out.blk) 256).trans HB.out.last, freeH (hb6.trans HB.out.blk) 256, hb6⟩
          have HP6 := Lib.hid hp6; have HROWA := Lib.hid hrowA
          clear hp6 hby hrowA hown
          go_upto_region 34 with (at_builtin; go_must (refine wpList_snoc_g StrE (x := (⟨#[62]⟩ : ByteArray)) rfl _ _ rfl w.heap.size (.slice ta tn tc) (([(34, (⟨#[38, 113, 117, 111, 116, 59]⟩ : ByteArray))] : List (Nat × ByteArray)).map fun p => (⟨#[p.1.toUInt8]⟩ : ByteArray)) rfl HROWA.out 1 _ rfl (Blk.new' _ _ _ _ (World.size_alloc _ _).symm) (by decide) hbase ?_); intro v' w6 hrow6 hg6; obtain ⟨a', n', c', rfl⟩ := hrow6.form'; obtain ⟨c6, f6, hb6⟩ := HP6.out _ _ hrow6 hg6)
          obtain ⟨cap, w8, hcv8, hB8, hR8⟩ := conv_blk (w6.setCell ⟨b, 256, none⟩ (.slice a' n' c')) (⟨#[38, 103, 116, 59]⟩ : ByteArray)
          obtain ⟨hst1, hst2, cs', hst3⟩ := HB.out.step (cap := cap) (o := 62) (n := (⟨#[38, 103, 116, 59]⟩ : ByteArray)) (by decide) (by decide) hzw hrow6 hg6 hB8 hR8
          have hb8 : w8.heap[b]? = (w6.setCell ⟨b, 256, none⟩ (.slice a' n' c')).heap[b]? := hB8.block b (by simp [World.setCell]; omega)
          have hb7 := setH (hb6.trans HB.out.blk) 256 (.slice a' n' c')
          have co8 : w8.cell? ⟨b, 62, none⟩ = some (.slice none 0 0) := (cellH (hb8.trans hb7) 62).trans ((Array.getElem?_setIfInBounds_ne (by decide)).trans (HB.out.rep 62 (by decide)))
          have fo8 := freeH (hb8.trans hb7) 62
          have hK9 : Below w.heap.size w (w8.setCell ⟨b, 62, none⟩ (.slice (some ⟨(w6.setCell ⟨b, 256, none⟩ (.slice a' n' c')).heap.size, 0, none⟩) (⟨#[38, 103, 116, 59]⟩ : ByteArray).size cap)) := by
            have hlb := HB.out.lo
            have hs7 : (w6.setCell ⟨b, 256, none⟩ (.slice a' n' c')).heap.size = w6.heap.size := by simp [World.setCell]
            have hg1 := grown_below (v := .slice ta tn tc) hg6 hbase (fun g hg => HB.out.row.own g hg)
            have h2 : Below w.heap.size w w6 := HK.out.trans ((((Below.refl w.heap.size wr).alloc hzw _).alloc (by simp; omega) _).trans hg1)
            exact ((h2.setCell (by exact hlb) _).trans (hB8.mono (by rw [hs7]; exact h2.size))).setCell (by exact hlb) _
          have hs7 : (w6.setCell ⟨b, 256, none⟩ (.slice a' n' c')).heap.size = w6.heap.size := by simp [World.setCell]
          rw [hs7] at hK9 hst3
          have HK9 := Lib.hid hK9; have HST3 := Lib.hid hst3
          clear hs7
          clear hK9 hst1 hst2 hst3 hb8 hb7 hb6 c6 f6 hrow6 hg6 hB8 hR8 hcv hc256 hco
          go_wp2_with fail
          go_roundg 3
          case rel => exact ⟨_, _, HK9.out, .inr (.inr (.inl ⟨rfl, rfl, HST3.out⟩))⟩
          case measure => omega
        · have HK := Lib.hid hK; have HB := Lib.hid hB
          have k2 := cell_kept e2 hK
          have k3 := cell_kept e3 hK
          have hx0 : ∀ h, ((⟨#[60]⟩ : ByteArray)[0]'h).toNat = 60 := fun _ => rfl
          have hco : wr.cell? ⟨b, 60, none⟩ = some (.slice none 0 0) := (cellH hB.blk 60).trans (hB.rep 60 (by decide))
          have hc256 : wr.cell? ⟨b, 256, none⟩ = some v := (cellH hB.blk 256).trans hB.last
          obtain ⟨ta, tn, tc, hv⟩ := hB.row.form'
          subst hv
          have hbw := lt_some hB.blk
          have hzw := hK.size
          clear hK hB
          go_upto_region 33 with fail
          have hby : Lib.Bytes (wr.alloc (.cells #[.int .u8 60] 5)) wr.heap.size 0 (⟨#[60]⟩ : ByteArray) := fun i hi => by
            have : i = 0 := by
              have e : (⟨#[60]⟩ : ByteArray).size = 1 := rfl
              omega
            subst this
            exact (cellH (push_new _ _ _ rfl) 0)
          have hcv0 := Lib.run_convert_whole (P := Tryz.prog) (wr.alloc (.cells #[.int .u8 60] 5)) 78 5 9 Tryz.underlying78 Tryz.underlying5 Tryz.underlying9 _ _ _ hby 1
          have hcv : (convert 78 9 (.slice (some ⟨wr.heap.size, 0, none⟩) 1 1)).run Tryz.prog (wr.alloc (.cells #[.int .u8 60] 5)) = .ok (.string ⟨#[60]⟩) (wr.alloc (.cells #[.int .u8 60] 5)) := hcv0
          clear hcv0
          have hrowA : GRow StrE w.heap.size ((wr.alloc (.cells #[.int .u8 60] 5)).alloc (.cells #[.string (⟨#[60]⟩ : ByteArray)] 9)) (.slice ta tn tc) (([(34, (⟨#[38, 113, 117, 111, 116, 59]⟩ : ByteArray)), (62, (⟨#[38, 103, 116, 59]⟩ : ByteArray))] : List (Nat × ByteArray)).map fun p => (⟨#[p.1.toUInt8]⟩ : ByteArray)) := (HB.out.row.on ((Below.refl _ _).alloc (Nat.le_refl _) _)).on ((Below.refl _ _).alloc (Nat.le_refl _) _)
          have hbase : w.heap.size ≤ ((wr.alloc (.cells #[.int .u8 60] 5)).alloc (.cells #[.string (⟨#[60]⟩ : ByteArray)] 9)).heap.size := by simp; omega
          have hown : (Value.slice ta tn tc).ownBlock ≠ some b := fun e => by
            obtain ⟨c, hc⟩ := HB.out.row.kind b e
            exact kinds_ne2 hc HB.out.blk (by decide)
          have hp6 : ∀ v' w6, GRow StrE w.heap.size w6 v' ((([(34, (⟨#[38, 113, 117, 111, 116, 59]⟩ : ByteArray)), (62, (⟨#[38, 103, 116, 59]⟩ : ByteArray))] : List (Nat × ByteArray)).map fun p => (⟨#[p.1.toUInt8]⟩ : ByteArray)) ++ [⟨#[60]⟩]) → ((wr.alloc (.cells #[.int .u8 60] 5)).alloc (.cells #[.string (⟨#[60]⟩ : ByteArray)] 9)).grownBy w6 (Value.slice ta tn tc).ownBlock → w6.cell? ⟨b, 256, none⟩ = some (.slice ta tn tc) ∧ w6.frozen? ⟨b, 256, none⟩ = false ∧ w6.heap[b]? = wr.heap[b]? := fun v' w6 hr hg => by
            have hb6 : w6.heap[b]? = wr.heap[b]? := (hg.block b (by simp; omega) (fun e => hown e.symm)).trans ((Lib.alloc_old _ _ _ (by simp; omega)).trans (Lib.alloc_old _ _ _ hbw))
            exact ⟨(cellH (hb6.trans HB.out.blk) 256).trans HB.out.last, freeH (hb6.trans HB.out.blk) 256, hb6⟩
          have HP6 := Lib.hid hp6; have HROWA := Lib.hid hrowA
          clear hp6 hby hrowA hown
          go_upto_region 34 with (at_builtin; go_must (refine wpList_snoc_g StrE (x := (⟨#[60]⟩ : ByteArray)) rfl _ _ rfl w.heap.size (.slice ta tn tc) (([(34, (⟨#[38, 113, 117, 111, 116, 59]⟩ : ByteArray)), (62, (⟨#[38, 103, 116, 59]⟩ : ByteArray))] : List (Nat × ByteArray)).map fun p => (⟨#[p.1.toUInt8]⟩ : ByteArray)) rfl HROWA.out 1 _ rfl (Blk.new' _ _ _ _ (World.size_alloc _ _).symm) (by decide) hbase ?_); intro v' w6 hrow6 hg6; obtain ⟨a', n', c', rfl⟩ := hrow6.form'; obtain ⟨c6, f6, hb6⟩ := HP6.out _ _ hrow6 hg6)
          obtain ⟨cap, w8, hcv8, hB8, hR8⟩ := conv_blk (w6.setCell ⟨b, 256, none⟩ (.slice a' n' c')) (⟨#[38, 108, 116, 59]⟩ : ByteArray)
          obtain ⟨hst1, hst2, cs', hst3⟩ := HB.out.step (cap := cap) (o := 60) (n := (⟨#[38, 108, 116, 59]⟩ : ByteArray)) (by decide) (by decide) hzw hrow6 hg6 hB8 hR8
          have hb8 : w8.heap[b]? = (w6.setCell ⟨b, 256, none⟩ (.slice a' n' c')).heap[b]? := hB8.block b (by simp [World.setCell]; omega)
          have hb7 := setH (hb6.trans HB.out.blk) 256 (.slice a' n' c')
          have co8 : w8.cell? ⟨b, 60, none⟩ = some (.slice none 0 0) := (cellH (hb8.trans hb7) 60).trans ((Array.getElem?_setIfInBounds_ne (by decide)).trans (HB.out.rep 60 (by decide)))
          have fo8 := freeH (hb8.trans hb7) 60
          have hK9 : Below w.heap.size w (w8.setCell ⟨b, 60, none⟩ (.slice (some ⟨(w6.setCell ⟨b, 256, none⟩ (.slice a' n' c')).heap.size, 0, none⟩) (⟨#[38, 108, 116, 59]⟩ : ByteArray).size cap)) := by
            have hlb := HB.out.lo
            have hs7 : (w6.setCell ⟨b, 256, none⟩ (.slice a' n' c')).heap.size = w6.heap.size := by simp [World.setCell]
            have hg1 := grown_below (v := .slice ta tn tc) hg6 hbase (fun g hg => HB.out.row.own g hg)
            have h2 : Below w.heap.size w w6 := HK.out.trans ((((Below.refl w.heap.size wr).alloc hzw _).alloc (by simp; omega) _).trans hg1)
            exact ((h2.setCell (by exact hlb) _).trans (hB8.mono (by rw [hs7]; exact h2.size))).setCell (by exact hlb) _
          have hs7 : (w6.setCell ⟨b, 256, none⟩ (.slice a' n' c')).heap.size = w6.heap.size := by simp [World.setCell]
          rw [hs7] at hK9 hst3
          have HK9 := Lib.hid hK9; have HST3 := Lib.hid hst3
          clear hs7
          clear hK9 hst1 hst2 hst3 hb8 hb7 hb6 c6 f6 hrow6 hg6 hB8 hR8 hcv hc256 hco
          go_wp2_with fail
          go_roundg 2
          case rel => exact ⟨_, _, HK9.out, .inr (.inr (.inr (.inl ⟨rfl, rfl, HST3.out⟩)))⟩
          case measure => omega
        · have HK := Lib.hid hK; have HB := Lib.hid hB
          have k0 := cell_kept e0 hK
          have k1 := cell_kept e1 hK
          have hx0 : ∀ h, ((⟨#[38]⟩ : ByteArray)[0]'h).toNat = 38 := fun _ => rfl
          have hco : wr.cell? ⟨b, 38, none⟩ = some (.slice none 0 0) := (cellH hB.blk 38).trans (hB.rep 38 (by decide))
          have hc256 : wr.cell? ⟨b, 256, none⟩ = some v := (cellH hB.blk 256).trans hB.last
          obtain ⟨ta, tn, tc, hv⟩ := hB.row.form'
          subst hv
          have hbw := lt_some hB.blk
          have hzw := hK.size
          clear hK hB
          go_upto_region 33 with fail
          have hby : Lib.Bytes (wr.alloc (.cells #[.int .u8 38] 5)) wr.heap.size 0 (⟨#[38]⟩ : ByteArray) := fun i hi => by
            have : i = 0 := by
              have e : (⟨#[38]⟩ : ByteArray).size = 1 := rfl
              omega
            subst this
            exact (cellH (push_new _ _ _ rfl) 0)
          have hcv0 := Lib.run_convert_whole (P := Tryz.prog) (wr.alloc (.cells #[.int .u8 38] 5)) 78 5 9 Tryz.underlying78 Tryz.underlying5 Tryz.underlying9 _ _ _ hby 1
          have hcv : (convert 78 9 (.slice (some ⟨wr.heap.size, 0, none⟩) 1 1)).run Tryz.prog (wr.alloc (.cells #[.int .u8 38] 5)) = .ok (.string ⟨#[38]⟩) (wr.alloc (.cells #[.int .u8 38] 5)) := hcv0
          clear hcv0
          have hrowA : GRow StrE w.heap.size ((wr.alloc (.cells #[.int .u8 38] 5)).alloc (.cells #[.string (⟨#[38]⟩ : ByteArray)] 9)) (.slice ta tn tc) (([(34, (⟨#[38, 113, 117, 111, 116, 59]⟩ : ByteArray)), (62, (⟨#[38, 103, 116, 59]⟩ : ByteArray)), (60, (⟨#[38, 108, 116, 59]⟩ : ByteArray))] : List (Nat × ByteArray)).map fun p => (⟨#[p.1.toUInt8]⟩ : ByteArray)) := (HB.out.row.on ((Below.refl _ _).alloc (Nat.le_refl _) _)).on ((Below.refl _ _).alloc (Nat.le_refl _) _)
          have hbase : w.heap.size ≤ ((wr.alloc (.cells #[.int .u8 38] 5)).alloc (.cells #[.string (⟨#[38]⟩ : ByteArray)] 9)).heap.size := by simp; omega
          have hown : (Value.slice ta tn tc).ownBlock ≠ some b := fun e => by
            obtain ⟨c, hc⟩ := HB.out.row.kind b e
            exact kinds_ne2 hc HB.out.blk (by decide)
          have hp6 : ∀ v' w6, GRow StrE w.heap.size w6 v' ((([(34, (⟨#[38, 113, 117, 111, 116, 59]⟩ : ByteArray)), (62, (⟨#[38, 103, 116, 59]⟩ : ByteArray)), (60, (⟨#[38, 108, 116, 59]⟩ : ByteArray))] : List (Nat × ByteArray)).map fun p => (⟨#[p.1.toUInt8]⟩ : ByteArray)) ++ [⟨#[38]⟩]) → ((wr.alloc (.cells #[.int .u8 38] 5)).alloc (.cells #[.string (⟨#[38]⟩ : ByteArray)] 9)).grownBy w6 (Value.slice ta tn tc).ownBlock → w6.cell? ⟨b, 256, none⟩ = some (.slice ta tn tc) ∧ w6.frozen? ⟨b, 256, none⟩ = false ∧ w6.heap[b]? = wr.heap[b]? := fun v' w6 hr hg => by
            have hb6 : w6.heap[b]? = wr.heap[b]? := (hg.block b (by simp; omega) (fun e => hown e.symm)).trans ((Lib.alloc_old _ _ _ (by simp; omega)).trans (Lib.alloc_old _ _ _ hbw))
            exact ⟨(cellH (hb6.trans HB.out.blk) 256).trans HB.out.last, freeH (hb6.trans HB.out.blk) 256, hb6⟩
          have HP6 := Lib.hid hp6; have HROWA := Lib.hid hrowA
          clear hp6 hby hrowA hown
          go_upto_region 34 with (at_builtin; go_must (refine wpList_snoc_g StrE (x := (⟨#[38]⟩ : ByteArray)) rfl _ _ rfl w.heap.size (.slice ta tn tc) (([(34, (⟨#[38, 113, 117, 111, 116, 59]⟩ : ByteArray)), (62, (⟨#[38, 103, 116, 59]⟩ : ByteArray)), (60, (⟨#[38, 108, 116, 59]⟩ : ByteArray))] : List (Nat × ByteArray)).map fun p => (⟨#[p.1.toUInt8]⟩ : ByteArray)) rfl HROWA.out 1 _ rfl (Blk.new' _ _ _ _ (World.size_alloc _ _).symm) (by decide) hbase ?_); intro v' w6 hrow6 hg6; obtain ⟨a', n', c', rfl⟩ := hrow6.form'; obtain ⟨c6, f6, hb6⟩ := HP6.out _ _ hrow6 hg6)
          obtain ⟨cap, w8, hcv8, hB8, hR8⟩ := conv_blk (w6.setCell ⟨b, 256, none⟩ (.slice a' n' c')) (⟨#[38, 97, 109, 112, 59]⟩ : ByteArray)
          obtain ⟨hst1, hst2, cs', hst3⟩ := HB.out.step (cap := cap) (o := 38) (n := (⟨#[38, 97, 109, 112, 59]⟩ : ByteArray)) (by decide) (by decide) hzw hrow6 hg6 hB8 hR8
          have hb8 : w8.heap[b]? = (w6.setCell ⟨b, 256, none⟩ (.slice a' n' c')).heap[b]? := hB8.block b (by simp [World.setCell]; omega)
          have hb7 := setH (hb6.trans HB.out.blk) 256 (.slice a' n' c')
          have co8 : w8.cell? ⟨b, 38, none⟩ = some (.slice none 0 0) := (cellH (hb8.trans hb7) 38).trans ((Array.getElem?_setIfInBounds_ne (by decide)).trans (HB.out.rep 38 (by decide)))
          have fo8 := freeH (hb8.trans hb7) 38
          have hK9 : Below w.heap.size w (w8.setCell ⟨b, 38, none⟩ (.slice (some ⟨(w6.setCell ⟨b, 256, none⟩ (.slice a' n' c')).heap.size, 0, none⟩) (⟨#[38, 97, 109, 112, 59]⟩ : ByteArray).size cap)) := by
            have hlb := HB.out.lo
            have hs7 : (w6.setCell ⟨b, 256, none⟩ (.slice a' n' c')).heap.size = w6.heap.size := by simp [World.setCell]
            have hg1 := grown_below (v := .slice ta tn tc) hg6 hbase (fun g hg => HB.out.row.own g hg)
            have h2 : Below w.heap.size w w6 := HK.out.trans ((((Below.refl w.heap.size wr).alloc hzw _).alloc (by simp; omega) _).trans hg1)
            exact ((h2.setCell (by exact hlb) _).trans (hB8.mono (by rw [hs7]; exact h2.size))).setCell (by exact hlb) _
          have hs7 : (w6.setCell ⟨b, 256, none⟩ (.slice a' n' c')).heap.size = w6.heap.size := by simp [World.setCell]
          rw [hs7] at hK9 hst3
          have HK9 := Lib.hid hK9; have HST3 := Lib.hid hst3
          clear hs7
          clear hK9 hst1 hst2 hst3 hb8 hb7 hb6 c6 f6 hrow6 hg6 hB8 hR8 hcv hc256 hco
          go_wp2_with fail
          go_roundg 1
          case rel => exact ⟨_, _, HK9.out, .inr (.inr (.inr (.inr (⟨rfl, rfl, HST3.out⟩))))⟩
          case measure => omega
        · have HK := Lib.hid hK; have HB := Lib.hid hB
          clear hK hB
          go_wp2_with fail
          go_ret
          exact ⟨b, cs, v, rfl, HBL.out, HK.out, HB.out⟩
end

section
open Go.RowKit Go.PlainAid

def esc4 : List (Nat × ByteArray) := [(34, (⟨#[38, 113, 117, 111, 116, 59]⟩ : ByteArray)), (62, (⟨#[38, 103, 116, 59]⟩ : ByteArray)), (60, (⟨#[38, 108, 116, 59]⟩ : ByteArray)), (38, (⟨#[38, 97, 109, 112, 59]⟩ : ByteArray))]
theorem esc_rpl_all : ∀ n : Fin 256, escC (UInt8.ofNat n.val) = (match rplL esc4 n.val with | some r => r.data.toList | none => [UInt8.ofNat n.val]) := by decide +kernel
theorem esc_some {x : UInt8} {r : ByteArray} (h : rplL esc4 x.toNat = some r) : escC x = r.data.toList := by
  have := esc_rpl_all ⟨x.toNat, x.toNat_lt⟩
  simp only [UInt8.ofNat_toNat, h] at this
  exact this
theorem esc_none {x : UInt8} (h : rplL esc4 x.toNat = none) : escC x = [x] := by
  have := esc_rpl_all ⟨x.toNat, x.toNat_lt⟩
  simp only [UInt8.ofNat_toNat, h] at this
  exact this
theorem esc_len (x : UInt8) : 1 ≤ (escC x).length ∧ (escC x).length ≤ 6 := by
  unfold escC
  repeat' split
  all_goals simp
/-- The length of what is written. -/
def escN (l : List UInt8) : Nat := (l.flatMap escC).length
theorem escN_cons (x : UInt8) (l : List UInt8) : escN (x :: l) = (escC x).length + escN l := by simp [escN]
theorem escN_append (a b : List UInt8) : escN (a ++ b) = escN a + escN b := by simp [escN]
theorem escN_ge : ∀ l : List UInt8, l.length ≤ escN l ∧ escN l ≤ 6 * l.length
  | [] => by simp [escN]
  | x :: l => by
    have h1 := escN_ge l
    have h2 := esc_len x
    rw [escN_cons, List.length_cons]
    omega
theorem esc_same : ∀ {l : List UInt8}, escN l = l.length → l.flatMap escC = l
  | [], _ => rfl
  | x :: l, h => by
    have h1 := escN_ge l
    have h2 := esc_len x
    rw [escN_cons, List.length_cons] at h
    have h3 : (escC x).length = 1 := by omega
    rw [List.flatMap_cons, esc_same (l := l) (by omega)]
    have h4 : escC x = [x] := by
      revert h3
      unfold escC
      repeat' split
      all_goals simp
    rw [h4]
    rfl
theorem escN_count : ∀ l : List UInt8, escN l = l.length + l.count 34 * 5 + l.count 62 * 3 + l.count 60 * 3 + l.count 38 * 4
  | [] => by simp [escN]
  | x :: l => by
    rw [escN_cons, escN_count l, List.length_cons]
    simp only [List.count_cons]
    by_cases h1 : x = 38
    · subst h1
      have e : (escC 38).length = 5 := rfl
      rw [e]
      simp
      omega
    by_cases h2 : x = 60
    · subst h2
      have e : (escC 60).length = 4 := rfl
      rw [e]
      simp
      omega
    by_cases h3 : x = 62
    · subst h3
      have e : (escC 62).length = 4 := rfl
      rw [e]
      simp
      omega
    by_cases h4 : x = 34
    · subst h4
      have e : (escC 34).length = 6 := rfl
      rw [e]
      simp
      omega
    · have e : (escC x).length = 1 := by unfold escC; rw [if_neg h1, if_neg h2, if_neg h3, if_neg h4]; rfl
      rw [e]
      simp [h1, h2, h3, h4]
      omega
theorem Bsr.on {lo b : Nat} {L : List (Nat × ByteArray)} {cs : Array Value} {v : Value} {w w' : World} (h : Bsr lo b L cs v w) (hB : Below w.heap.size w w') : Bsr lo b L cs v w' :=
  ⟨(hB.block b (lt_some h.blk)).trans h.blk, h.size, fun c hc => RepC.later (h.rep c hc) (fun g _ _ hgc => hB.block g (lt_some hgc)), h.last, h.row.on hB, h.lo⟩
theorem neq_slice (a : Option Addr) (l c : Nat) (w : World) : (binOp .neq 78 (.slice a l c) (.slice none 0 0)).run Tryz.prog w = .ok (.bool (!a.isNone)) w := run_neq_slice_nil (w := w) 78 5 a l c Tryz.underlying78
def rplN (s : ByteArray) (i : Nat) : Nat := match rplL esc4 (bt s i).toNat with | some r => r.size | none => 1
theorem take_step (s : ByteArray) (i : Nat) (h : i < s.size) : s.data.toList.take (i + 1) = s.data.toList.take i ++ [s[i]] := by
  rw [List.take_succ_eq_append_getElem (show i < s.data.toList.length from h)]
  rfl
theorem bt_byte (s : ByteArray) (i : Nat) (h : i < s.size) : (bt s i).toNat = (s[i]).toNat := by rw [← get_bt s i h]; exact Int.toNat_natCast _
theorem T_step (s : ByteArray) (i : Nat) (h : i < s.size) : escN (s.data.toList.take (i + 1)) = escN (s.data.toList.take i) + rplN s i := by
  rw [take_step s i h, escN_append]
  congr 1
  unfold rplN
  rw [bt_byte s i h]
  cases hr : rplL esc4 (s[i]).toNat with
  | none => simp [escN, esc_none hr]
  | some r =>
    simp [escN, esc_some hr]
    try rfl
theorem T_le (s : ByteArray) (i : Nat) : escN (s.data.toList.take i) ≤ escN s.data.toList := by
  have h : escN s.data.toList = escN (s.data.toList.take i) + escN (s.data.toList.drop i) := by rw [← escN_append, List.take_append_drop]
  omega
theorem T_zero (s : ByteArray) : escN (s.data.toList.take 0) = 0 := rfl
theorem T_all (s : ByteArray) (i : Nat) (h : s.size ≤ i) : escN (s.data.toList.take i) = escN s.data.toList := by rw [List.take_of_length_le (show s.data.toList.length ≤ i from h)]
theorem T_ge (s : ByteArray) (i : Nat) (h : i ≤ s.size) : i ≤ escN (s.data.toList.take i) ∧ escN (s.data.toList.take i) ≤ 6 * i := by
  have h1 := escN_ge (s.data.toList.take i)
  rw [List.length_take, Nat.min_eq_left (show i ≤ s.data.toList.length from h)] at h1
  exact h1
theorem rpl_size {n : Nat} {r : ByteArray} (h : rplL esc4 n = some r) (hn : n < 256) : 1 ≤ r.size ∧ r.size ≤ 6 := by
  have key : ∀ n : Fin 256, (match rplL esc4 n.val with | some r => decide (1 ≤ r.size ∧ r.size ≤ 6) | none => true) = true := by decide +kernel
  have := key ⟨n, hn⟩
  simp only [h] at this
  simpa using this
theorem rpl_two {n : Nat} {r : ByteArray} (h : rplL esc4 n = some r) (hn : n < 256) : 2 ≤ r.size := by
  have key : ∀ n : Fin 256, (match rplL esc4 n.val with | some r => decide (2 ≤ r.size) | none => true) = true := by decide +kernel
  have := key ⟨n, hn⟩
  simp only [h] at this
  simpa using this
theorem bt_nat (s : ByteArray) (i : Nat) : ((bt s i).toNat : Int) = bt s i ∧ (bt s i).toNat < 256 := by
  have h1 := bt_nonneg s i
  have h2 := bt_le s i
  constructor <;> omega

set_option maxRecDepth 100000 in
set_option maxHeartbeats 8000000 in
theorem bsrReplace_any (lo b : Nat) (cs : Array Value) (v : Value) (s : ByteArray) (w : World) (h : Bsr lo b esc4 cs v w) (hz : s.size ≤ 4000000000) :
    Calls Tryz.prog 205 #[.pointer (some ⟨b, 0, none⟩), .string s] w fun en w' => en = .returned (.string (escB s)) ∧ Below w.heap.size w w' := by
  have hzI : (s.size : Int) ≤ 4000000000 := by omega
  obtain ⟨ta, tn, tc, hv⟩ := h.row.form'
  subst hv
  have htn : tn = 4 := by
    obtain ⟨_, _, e⟩ := h.row.form
    injection e
  subst htn
  have c256 : w.cell? ⟨b, 256, none⟩ = some (.slice ta 4 tc) := (cellH h.blk 256).trans h.last
  have HH := Lib.hid h
  have hnq := fun a l c W => neq_slice a l c W
  clear h
  go_enter Tryz.func205, Tryz.ntmps205
  go_upto_if 26 with fail
  clear c256
  go_cut [5, 6] (fun s5 s6 wx => s5 = .int .i64 (escN s.data.toList : Int) ∧ s6 = .bool (decide (s.size < escN s.data.toList)) ∧ Below w.heap.size w wx)
  case first =>
    by_cases hA : 32 ≤ s.size
    · have hI : (32 : Int) ≤ s.size := by omega
      rw [show decide ((32 : Int) ≤ (s.size : Int)) = true from decide_eq_true hI]
      clear hI
      obtain ⟨n0, hn0⟩ : ∃ n, s.data.toList.count 34 = n := ⟨_, rfl⟩
      obtain ⟨n1, hn1⟩ : ∃ n, s.data.toList.count 62 = n := ⟨_, rfl⟩
      obtain ⟨n2, hn2⟩ : ∃ n, s.data.toList.count 60 = n := ⟨_, rfl⟩
      obtain ⟨n3, hn3⟩ : ∃ n, s.data.toList.count 38 = n := ⟨_, rfl⟩
      have hll : s.data.toList.length = s.size := rfl
      have hb0 : n0 ≤ s.size := by rw [← hn0, ← hll]; exact List.count_le_length
      have hb1 : n1 ≤ s.size := by rw [← hn1, ← hll]; exact List.count_le_length
      have hb2 : n2 ≤ s.size := by rw [← hn2, ← hll]; exact List.count_le_length
      have hb3 : n3 ≤ s.size := by rw [← hn3, ← hll]; exact List.count_le_length
      have hN := escN_count s.data.toList
      rw [hn0, hn1, hn2, hn3, hll] at hN
      have HN := Lib.hid hN
      have hcnt0 : ∀ W, Calls Tryz.prog 81 #[.string s, .string ⟨#[34]⟩] W fun e w' => e = .returned (.int .i64 (n0 : Int)) ∧ w' = W := fun W => by have h := Tryz.strings_Count_one s 34 W; unfold Lib.countByte at h; rw [hn0] at h; exact h
      have hcnt1 : ∀ W, Calls Tryz.prog 81 #[.string s, .string ⟨#[62]⟩] W fun e w' => e = .returned (.int .i64 (n1 : Int)) ∧ w' = W := fun W => by have h := Tryz.strings_Count_one s 62 W; unfold Lib.countByte at h; rw [hn1] at h; exact h
      have hcnt2 : ∀ W, Calls Tryz.prog 81 #[.string s, .string ⟨#[60]⟩] W fun e w' => e = .returned (.int .i64 (n2 : Int)) ∧ w' = W := fun W => by have h := Tryz.strings_Count_one s 60 W; unfold Lib.countByte at h; rw [hn2] at h; exact h
      have hcnt3 : ∀ W, Calls Tryz.prog 81 #[.string s, .string ⟨#[38]⟩] W fun e w' => e = .returned (.int .i64 (n3 : Int)) ∧ w' = W := fun W => by have h := Tryz.strings_Count_one s 38 W; unfold Lib.countByte at h; rw [hn3] at h; exact h
      have c256 : w.cell? ⟨b, 256, none⟩ = some (.slice ta 4 tc) := (cellH HH.out.blk 256).trans HH.out.last
      rcases HH.out.row.read with ⟨e, _⟩ | ⟨tg, tcap, hv, _, _, _, _, hrc⟩
      · cases e
      injection hv with e1 e2 e3
      clear e2
      subst e1 e3
      have r0 : w.cell? ⟨tg, 0, none⟩ = some (.string ⟨#[34]⟩) := hrc 0 (by decide) 0 (by decide)
      have r1 : w.cell? ⟨tg, 1, none⟩ = some (.string ⟨#[62]⟩) := hrc 1 (by decide) 0 (by decide)
      have r2 : w.cell? ⟨tg, 2, none⟩ = some (.string ⟨#[60]⟩) := hrc 2 (by decide) 0 (by decide)
      have r3 : w.cell? ⟨tg, 3, none⟩ = some (.string ⟨#[38]⟩) := hrc 3 (by decide) 0 (by decide)
      have HRC := Lib.hid (And.intro r0 (And.intro r1 (And.intro r2 r3)))
      clear hN hn0 hn1 hn2 hn3 hrc r0 r1 r2 r3 hA
      go_upto_region 5 with fail
      clear c256
      go_loopg [32, 5, 6] 5 (fun f s32 s5 s6 wx => Below w.heap.size w wx ∧ ((f = 5 ∧ s32 = .int .i64 0 ∧ s5 = .int .i64 ((s.size : Int)) ∧ s6 = .bool (false)) ∨ (f = 4 ∧ s32 = .int .i64 1 ∧ s5 = .int .i64 ((s.size : Int) + (n0 : Int) * 5) ∧ s6 = .bool (decide (0 < 0 + n0 * 5))) ∨ (f = 3 ∧ s32 = .int .i64 2 ∧ s5 = .int .i64 ((s.size : Int) + (n0 : Int) * 5 + (n1 : Int) * 3) ∧ s6 = .bool (decide (0 < 0 + n0 * 5 + n1 * 3))) ∨ (f = 2 ∧ s32 = .int .i64 3 ∧ s5 = .int .i64 ((s.size : Int) + (n0 : Int) * 5 + (n1 : Int) * 3 + (n2 : Int) * 3) ∧ s6 = .bool (decide (0 < 0 + n0 * 5 + n1 * 3 + n2 * 3))) ∨ (f = 1 ∧ s32 = .int .i64 4 ∧ s5 = .int .i64 ((s.size : Int) + (n0 : Int) * 5 + (n1 : Int) * 3 + (n2 : Int) * 3 + (n3 : Int) * 4) ∧ s6 = .bool (decide (0 < 0 + n0 * 5 + n1 * 3 + n2 * 3 + n3 * 4)))))
      case atStart => exact ⟨Below.refl _ _, .inl ⟨rfl, rfl, rfl, rfl⟩⟩
      case round =>
        obtain ⟨hB, ⟨rfl, rfl, rfl, rfl⟩ | ⟨rfl, rfl, rfl, rfl⟩ | ⟨rfl, rfl, rfl, rfl⟩ | ⟨rfl, rfl, rfl, rfl⟩ | ⟨rfl, rfl, rfl, rfl⟩⟩ := hrel
        · have HB := Lib.hid hB
          have rk := cell_kept HRC.out.1 hB
          have hBs := HH.out.on hB
          obtain ⟨g, cap, hcl, hlg, hRB⟩ := (hBs.rep 34 (by decide) : RepC lo wr (some ⟨#[38, 113, 117, 111, 116, 59]⟩) cs[34]?)
          have hck : wr.cell? ⟨b, 34, none⟩ = some (.slice (some ⟨g, 0, none⟩) 6 cap) := (cellH hBs.blk 34).trans hcl
          have hx0 : ∀ h, ((⟨#[34]⟩ : ByteArray)[0]'h).toNat = 34 := fun _ => rfl
          have hz0 : (⟨#[34]⟩ : ByteArray).size = 1 := rfl
          have hzw := hB.size
          clear hB hBs hcl hlg hRB
          go_wp2_with fail
          refine (hcnt0 _).mono ?_
          rintro e w' ⟨rfl, rfl⟩
          by_cases hn : n0 = 0
          · have hnI : ((n0 : Int) == 0) = true := by simp; omega
            have hnI2 : (n0 : Int) = 0 := by omega
            go_wp2_with fail
            go_roundg 4
            case rel => exact ⟨HB.out, .inr (.inl ⟨rfl, rfl, by rw [hnI2]; simp, by congr 1; symm; rw [decide_eq_false (by omega)]⟩)⟩
            case measure => omega
          · have hnI : ((n0 : Int) == 0) = false := by simp; omega
            have hnI2 : ¬ (n0 : Int) = 0 := by omega
            have f2 : IntKind.i64.wrap ((n0 : Int) * 5) = (n0 : Int) * 5 := IntWalk.i64_in _ (by omega)
            have f3 : IntKind.i64.wrap ((s.size : Int) + (n0 : Int) * 5) = (s.size : Int) + (n0 : Int) * 5 := IntWalk.i64_in _ (by omega)
            go_upto_region 9 with fail
            go_quiet (fail)
            have hB2 := HB.out.trans ((bdN0 (Below.refl _ _) nq).mono hzw)
            have HB2 := Lib.hid hB2
            clear hB2
            go_wp2_with fail
            go_roundg 4
            case rel => exact ⟨HB2.out, .inr (.inl ⟨rfl, rfl, rfl, by congr 1; symm; rw [decide_eq_true (by omega)]⟩)⟩
            case measure => omega
        · have HB := Lib.hid hB
          have rk := cell_kept HRC.out.2.1 hB
          have hBs := HH.out.on hB
          obtain ⟨g, cap, hcl, hlg, hRB⟩ := (hBs.rep 62 (by decide) : RepC lo wr (some ⟨#[38, 103, 116, 59]⟩) cs[62]?)
          have hck : wr.cell? ⟨b, 62, none⟩ = some (.slice (some ⟨g, 0, none⟩) 4 cap) := (cellH hBs.blk 62).trans hcl
          have hx0 : ∀ h, ((⟨#[62]⟩ : ByteArray)[0]'h).toNat = 62 := fun _ => rfl
          have hz0 : (⟨#[62]⟩ : ByteArray).size = 1 := rfl
          have hzw := hB.size
          clear hB hBs hcl hlg hRB
          go_wp2_with fail
          refine (hcnt1 _).mono ?_
          rintro e w' ⟨rfl, rfl⟩
          by_cases hn : n1 = 0
          · have hnI : ((n1 : Int) == 0) = true := by simp; omega
            have hnI2 : (n1 : Int) = 0 := by omega
            go_wp2_with fail
            go_roundg 3
            case rel => exact ⟨HB.out, .inr (.inr (.inl ⟨rfl, rfl, by rw [hnI2]; simp, by congr 1; rw [decide_eq_decide]; omega⟩))⟩
            case measure => omega
          · have hnI : ((n1 : Int) == 0) = false := by simp; omega
            have hnI2 : ¬ (n1 : Int) = 0 := by omega
            have f2 : IntKind.i64.wrap ((n1 : Int) * 3) = (n1 : Int) * 3 := IntWalk.i64_in _ (by omega)
            have f3 : IntKind.i64.wrap ((s.size : Int) + (n0 : Int) * 5 + (n1 : Int) * 3) = (s.size : Int) + (n0 : Int) * 5 + (n1 : Int) * 3 := IntWalk.i64_in _ (by omega)
            go_upto_region 9 with fail
            go_quiet (fail)
            have hB2 := HB.out.trans ((bdN0 (Below.refl _ _) nq).mono hzw)
            have HB2 := Lib.hid hB2
            clear hB2
            go_wp2_with fail
            go_roundg 3
            case rel => exact ⟨HB2.out, .inr (.inr (.inl ⟨rfl, rfl, rfl, by congr 1; symm; rw [decide_eq_true (by omega)]⟩))⟩
            case measure => omega
        · have HB := Lib.hid hB
          have rk := cell_kept HRC.out.2.2.1 hB
          have hBs := HH.out.on hB
          obtain ⟨g, cap, hcl, hlg, hRB⟩ := (hBs.rep 60 (by decide) : RepC lo wr (some ⟨#[38, 108, 116, 59]⟩) cs[60]?)
          have hck : wr.cell? ⟨b, 60, none⟩ = some (.slice (some ⟨g, 0, none⟩) 4 cap) := (cellH hBs.blk 60).trans hcl
          have hx0 : ∀ h, ((⟨#[60]⟩ : ByteArray)[0]'h).toNat = 60 := fun _ => rfl
          have hz0 : (⟨#[60]⟩ : ByteArray).size = 1 := rfl
          have hzw := hB.size
          clear hB hBs hcl hlg hRB
          go_wp2_with fail
          refine (hcnt2 _).mono ?_
          rintro e w' ⟨rfl, rfl⟩
          by_cases hn : n2 = 0
          · have hnI : ((n2 : Int) == 0) = true := by simp; omega
            have hnI2 : (n2 : Int) = 0 := by omega
            go_wp2_with fail
            go_roundg 2
            case rel => exact ⟨HB.out, .inr (.inr (.inr (.inl ⟨rfl, rfl, by rw [hnI2]; simp, by congr 1; rw [decide_eq_decide]; omega⟩)))⟩
            case measure => omega
          · have hnI : ((n2 : Int) == 0) = false := by simp; omega
            have hnI2 : ¬ (n2 : Int) = 0 := by omega
            have f2 : IntKind.i64.wrap ((n2 : Int) * 3) = (n2 : Int) * 3 := IntWalk.i64_in _ (by omega)
            have f3 : IntKind.i64.wrap ((s.size : Int) + (n0 : Int) * 5 + (n1 : Int) * 3 + (n2 : Int) * 3) = (s.size : Int) + (n0 : Int) * 5 + (n1 : Int) * 3 + (n2 : Int) * 3 := IntWalk.i64_in _ (by omega)
            go_upto_region 9 with fail
            go_quiet (fail)
            have hB2 := HB.out.trans ((bdN0 (Below.refl _ _) nq).mono hzw)
            have HB2 := Lib.hid hB2
            clear hB2
            go_wp2_with fail
            go_roundg 2
            case rel => exact ⟨HB2.out, .inr (.inr (.inr (.inl ⟨rfl, rfl, rfl, by congr 1; symm; rw [decide_eq_true (by omega)]⟩)))⟩
            case measure => omega
        · have HB := Lib.hid hB
          have rk := cell_kept HRC.out.2.2.2 hB
          have hBs := HH.out.on hB
          obtain ⟨g, cap, hcl, hlg, hRB⟩ := (hBs.rep 38 (by decide) : RepC lo wr (some ⟨#[38, 97, 109, 112, 59]⟩) cs[38]?)
          have hck : wr.cell? ⟨b, 38, none⟩ = some (.slice (some ⟨g, 0, none⟩) 5 cap) := (cellH hBs.blk 38).trans hcl
          have hx0 : ∀ h, ((⟨#[38]⟩ : ByteArray)[0]'h).toNat = 38 := fun _ => rfl
          have hz0 : (⟨#[38]⟩ : ByteArray).size = 1 := rfl
          have hzw := hB.size
          clear hB hBs hcl hlg hRB
          go_wp2_with fail
          refine (hcnt3 _).mono ?_
          rintro e w' ⟨rfl, rfl⟩
          by_cases hn : n3 = 0
          · have hnI : ((n3 : Int) == 0) = true := by simp; omega
            have hnI2 : (n3 : Int) = 0 := by omega
            go_wp2_with fail
            go_roundg 1
            case rel => exact ⟨HB.out, .inr (.inr (.inr (.inr (⟨rfl, rfl, by rw [hnI2]; simp, by congr 1; rw [decide_eq_decide]; omega⟩))))⟩
            case measure => omega
          · have hnI : ((n3 : Int) == 0) = false := by simp; omega
            have hnI2 : ¬ (n3 : Int) = 0 := by omega
            have f2 : IntKind.i64.wrap ((n3 : Int) * 4) = (n3 : Int) * 4 := IntWalk.i64_in _ (by omega)
            have f3 : IntKind.i64.wrap ((s.size : Int) + (n0 : Int) * 5 + (n1 : Int) * 3 + (n2 : Int) * 3 + (n3 : Int) * 4) = (s.size : Int) + (n0 : Int) * 5 + (n1 : Int) * 3 + (n2 : Int) * 3 + (n3 : Int) * 4 := IntWalk.i64_in _ (by omega)
            go_upto_region 9 with fail
            go_quiet (fail)
            have hB2 := HB.out.trans ((bdN0 (Below.refl _ _) nq).mono hzw)
            have HB2 := Lib.hid hB2
            clear hB2
            go_wp2_with fail
            go_roundg 1
            case rel => exact ⟨HB2.out, .inr (.inr (.inr (.inr (⟨rfl, rfl, rfl, by congr 1; symm; rw [decide_eq_true (by omega)]⟩))))⟩
            case measure => omega
        · have HB := Lib.hid hB
          clear hB hcnt0 hcnt1 hcnt2 hcnt3
          go_wp2_with fail
          go_meet
          case rel =>
            have hN := HN.out
            refine ⟨?_, ?_, HB.out⟩
            · rw [hN]; push_cast; rfl
            · rw [hN]; congr 1; rw [decide_eq_decide]; omega
    · have hI32 : ¬ (32 : Int) ≤ s.size := by omega
      rw [show decide ((32 : Int) ≤ (s.size : Int)) = false from decide_eq_false hI32]
      clear hI32 hA
      go_wp2_with fail
      go_loopg [10, 5, 6] (s.size + 1) (fun f s10 s5 s6 wx => ∃ i K : Nat, s10 = .int .i64 (i : Int) ∧ f + i = s.size + 1 ∧ i ≤ s.size ∧ K = s.size - i + escN (s.data.toList.take i) ∧ s5 = .int .i64 (K : Int) ∧ s6 = .bool (decide (i < escN (s.data.toList.take i))) ∧ Below w.heap.size w wx)
      case atStart => exact ⟨0, s.size, rfl, rfl, Nat.zero_le _, by rw [T_zero]; omega, rfl, rfl, Below.refl _ _⟩
      case round =>
        obtain ⟨i, K, rfl, hg, hi, hK, rfl, rfl, hB⟩ := hrel
        have HG := Lib.hid (And.intro hg hK); have HB := Lib.hid hB
        have hi0 : (0 : Int) ≤ i := by omega
        have hT := T_ge s i hi
        have f1 : IntKind.i64.wrap ((i : Int) + 1) = (i : Int) + 1 := IntWalk.i64_in _ (by omega)
        by_cases hlt : i < s.size
        · have hiI : (i : Int) < s.size := by omega
          have hbt := get_bt s
          have hx0 := bt_nonneg s i
          have hx1 : bt s i < 256 := by have := bt_le s i; omega
          have hn := (bt_nat s i).2
          have hBs := HH.out.on hB
          have hrep := hBs.rep (bt s i).toNat hn
          have hts := T_step s i hlt
          have hTl := T_ge s (i + 1) hlt
          cases hr : rplL esc4 (bt s i).toNat with
          | none =>
            rw [hr] at hrep
            have hrn : rplN s i = 1 := by unfold rplN; rw [hr]
            rw [hrn] at hts
            have hcl : wr.cell? ⟨b, (bt s i).toNat, none⟩ = some (.slice none 0 0) := (cellH hBs.blk _).trans hrep
            have HTS := Lib.hid hts; have HT := Lib.hid hT; have HLT := Lib.hid hlt
            clear hg hK hB hBs hrep hts hrn hr hn hTl hT hlt
            go_wp2_with fail
            go_roundg (s.size - i)
            case rel => exact ⟨i + 1, K, by simp, by have := HG.out.1; have := HLT.out; omega, HLT.out, by have := HG.out.2; have := HTS.out; have := HLT.out; omega, rfl, by congr 1; rw [decide_eq_decide, HTS.out]; omega, HB.out⟩
            case measure => have := HG.out; have := HLT.out; omega
          | some r =>
            rw [hr] at hrep
            have hrn : rplN s i = r.size := by unfold rplN; rw [hr]
            rw [hrn] at hts
            obtain ⟨g, cap, hcl0, _, _⟩ := hrep
            have hcl : wr.cell? ⟨b, (bt s i).toNat, none⟩ = some (.slice (some ⟨g, 0, none⟩) r.size cap) := (cellH hBs.blk _).trans hcl0
            have hrs := rpl_size hr hn
            have f2 : IntKind.i64.wrap ((r.size : Int) - 1) = (r.size : Int) - 1 := IntWalk.i64_in _ (by omega)
            have f3 : IntKind.i64.wrap ((K : Int) + ((r.size : Int) - 1)) = ((K + (r.size - 1) : Nat) : Int) := by rw [IntWalk.i64_in _ (by omega)]; omega
            have hr2 : 2 ≤ r.size := rpl_two hr hn
            have HTS := Lib.hid hts; have HT := Lib.hid hT; have HLT := Lib.hid hlt; have HRS := Lib.hid (And.intro hrs hr2)
            clear hg hK hB hBs hcl0 hts hrn hr hn hTl hT hlt hrs hr2
            go_wp2_with fail
            go_roundg (s.size - i)
            case rel => exact ⟨i + 1, K + (r.size - 1), by simp, by have := HG.out.1; have := HLT.out; omega, HLT.out, by have := HG.out.2; have := HTS.out; have := HLT.out; have := HRS.out; omega, by first | rfl | (congr 1; push_cast; omega), by congr 1; symm; rw [decide_eq_true]; have := HTS.out; have := HRS.out; have := HT.out; omega, HB.out⟩
            case measure => have := HG.out; have := HLT.out; omega
        · have hiI : ¬ (i : Int) < s.size := by omega
          have hie : i = s.size := by omega
          have HIE := Lib.hid hie
          clear hg hK hB hlt hie
          go_wp2_with fail
          go_meet
          case rel =>
            have hT := T_all s i (by have := HIE.out; omega)
            have hK := HG.out.2
            have hie := HIE.out
            rw [hT] at hK ⊢
            refine ⟨by congr 2; omega, by rw [hie], HB.out⟩
  case rest =>
    obtain ⟨rfl, rfl, hB⟩ := hcut
    obtain ⟨N, hN⟩ : ∃ N, escN s.data.toList = N := ⟨_, rfl⟩
    have hge := escN_ge s.data.toList
    have hll : s.data.toList.length = s.size := rfl
    rw [hll] at hge
    rw [hN] at hge ⊢
    have HN := Lib.hid hN; have HB := Lib.hid hB
    clear hN hB hll
    by_cases hany : s.size < N
    · rw [decide_eq_true hany]
      have hmk := fun W => run_make_row' (P := Tryz.prog) 78 5 (.int .u8 0) 1 Tryz.underlying78 binfo rfl .i64 .i64 N (by omega) (by omega) W
      have hNI : (N : Int) ≤ 24000000000 := by omega
      go_upto_region 22 with fail
      clear hmk
      have HBA := Lib.hid (HB.out.trans (((Below.refl wc.heap.size wc).alloc (Nat.le_refl _) (.cells (madeCells #[.int .u8 0] N) 5)).mono HB.out.size))
      have hb0 : (wc.alloc (.cells (madeCells #[.int .u8 0] N) 5)).heap[wc.heap.size]? = some (.cells (madeCells #[.int .u8 0] N) 5 (0, 0)) := push_new _ _ _ rfl
      have hcz : (madeCells #[.int .u8 0] N).size = N := size_madeCells _ _
      have hlg := HB.out.size
      generalize wc.alloc (.cells (madeCells #[.int .u8 0] N) 5) = W0 at *
      generalize wc.heap.size = g0 at *
      generalize madeCells #[.int .u8 0] N = cur0 at *
      have HB0 := Lib.hid (And.intro hb0 hcz); have HLG := Lib.hid hlg
      clear hb0 hcz hlg hany
      go_wp2_with fail
      go_loopg [14, 13] (s.size + 1) (fun f s14 s13 wx => ∃ i j : Nat, ∃ cur : Array Value, s14 = .int .i64 (i : Int) ∧ f + i = s.size + 1 ∧ i ≤ s.size ∧ j = escN (s.data.toList.take i) ∧ s13 = .int .i64 (j : Int) ∧ wx.heap[g0]? = some (.cells cur 5 (0, 0)) ∧ cur.size = N ∧ cur.toList.take j = ((s.data.toList.take i).flatMap escC).map (fun c => Value.int .u8 (c.toNat : Int)) ∧ Below w.heap.size w wx)
      case atStart => exact ⟨0, 0, cur0, rfl, rfl, Nat.zero_le _, rfl, rfl, HB0.out.1, HB0.out.2, by simp, HBA.out⟩
      case round =>
        obtain ⟨i, j, cur, rfl, hg, hi, hj, rfl, hcb, hcs, hct, hB⟩ := hrel
        have HG := Lib.hid (And.intro hg hj); have HBR := Lib.hid hB; have HCB := Lib.hid hcb; have HCS := Lib.hid hcs; have HCT := Lib.hid hct
        have hi0 : (0 : Int) ≤ i := by omega
        have hj0 : (0 : Int) ≤ j := by omega
        have hT := T_ge s i hi
        have f1 : IntKind.i64.wrap ((i : Int) + 1) = (i : Int) + 1 := IntWalk.i64_in _ (by omega)
        by_cases hlt : i < s.size
        · have hiI : (i : Int) < s.size := by omega
          have hbt := get_bt s
          have hx0 := bt_nonneg s i
          have hx1 : bt s i < 256 := by have := bt_le s i; omega
          have hn := (bt_nat s i).2
          have hBs := HH.out.on hB
          have hrep := hBs.rep (bt s i).toNat hn
          have hts := T_step s i hlt
          have hTN := T_le s (i + 1)
          rw [HN.out] at hTN
          have htk := take_step s i hlt
          have hbn := bt_byte s i hlt
          cases hr : rplL esc4 (bt s i).toNat with
          | none =>
            rw [hr] at hrep
            have hrn : rplN s i = 1 := by unfold rplN; rw [hr]
            rw [hrn] at hts
            have hcl : wr.cell? ⟨b, (bt s i).toNat, none⟩ = some (.slice none 0 0) := (cellH hBs.blk _).trans hrep
            have hjN : j < N := by omega
            have hjI : (j : Int) < N := by omega
            have f4 : IntKind.i64.wrap ((j : Int) + 1) = (j : Int) + 1 := IntWalk.i64_in _ (by omega)
            obtain ⟨y, hy⟩ : ∃ y, wr.cell? ⟨g0, j, none⟩ = some y := ⟨cur[j]'(by omega), (cellH hcb j).trans (Array.getElem?_eq_getElem (by omega))⟩
            have hfy := freeH hcb j
            have hne : s.data.toList.take (i + 1) = s.data.toList.take i ++ [s[i]] := htk
            have hesc : escC s[i] = [s[i]] := esc_none (by rw [← hbn]; exact hr)
            have hnew : (cur.setIfInBounds j (.int .u8 (bt s i))).toList.take (j + 1) = ((s.data.toList.take (i + 1)).flatMap escC).map (fun c => Value.int .u8 (c.toNat : Int)) := by
              rw [hne, List.flatMap_append, List.map_append, ← hct, List.flatMap_cons, List.flatMap_nil, List.append_nil, hesc, Array.toList_setIfInBounds]
              rw [List.take_succ_eq_append_getElem (by rw [List.length_set]; show j < cur.size; omega), List.take_set_of_le (Nat.le_refl _), List.getElem_set_self]
              simp only [List.map_cons, List.map_nil]
              rw [← get_bt s i hlt]
            have HNEW := Lib.hid hnew; have HTS := Lib.hid hts; have HLT := Lib.hid hlt
            clear hg hj hcb hcs hct hB hBs hrep hts hrn hr hn hT hTN htk hbn hne hesc hnew hlt hjN
            go_wp2_with fail
            go_roundg (s.size - i)
            case rel => exact ⟨i + 1, j + 1, _, by simp, by have := HG.out.1; have := HLT.out; omega, HLT.out, by have := HG.out.2; have := HTS.out; omega, by simp, setH HCB.out j _, by rw [Array.size_setIfInBounds]; exact HCS.out, HNEW.out, HBR.out.setCell (by exact HLG.out) _⟩
            case measure => have := HG.out; have := HLT.out; omega
          | some r =>
            rw [hr] at hrep
            have hrn : rplN s i = r.size := by unfold rplN; rw [hr]
            rw [hrn] at hts
            obtain ⟨g, cap, hcl0, hgl, hRB⟩ := hrep
            have hcl : wr.cell? ⟨b, (bt s i).toNat, none⟩ = some (.slice (some ⟨g, 0, none⟩) r.size cap) := (cellH hBs.blk _).trans hcl0
            have hrs := rpl_size hr hn
            have hbg : b ≠ g0 := by have := lt_some HH.out.blk; have := HLG.out; omega
            have hjN : j + r.size ≤ N := by omega
            have hjI : (j : Int) ≤ N := by omega
            have hNj : ¬ N = j := by omega
            have hesc : escC s[i] = r.data.toList := esc_some (by rw [← hbn]; exact hr)
            obtain ⟨cs, hcsd⟩ : ∃ cs, r.data.toList.map (fun c => Value.int .u8 (c.toNat : Int)) = cs := ⟨_, rfl⟩
            have hcsl : cs.length = r.size := by rw [← hcsd, List.length_map]; rfl
            have hsrc : ∀ k v, cs[k]? = some v → wr.drew.cell? ((⟨g, 0, none⟩ : Addr).add k) = some v := fun k v hk => by
              obtain ⟨ca, fz, hg1, hg2⟩ := hRB
              have hkl : k < r.size := by rw [← hcsl]; exact (List.getElem?_eq_some_iff.1 hk).1
              rw [Lib.add_plain, Nat.zero_add]
              show wr.cell? ⟨g, k, none⟩ = some v
              rw [cellH hg1 k, hg2 k hkl, ← hk, ← hcsd, List.getElem?_map, ← get_bt r k hkl]
              have : r.data.toList[k]? = some r[k] := by rw [List.getElem?_eq_getElem (show k < r.data.toList.length from hkl)]; rfl
              rw [this]
              rfl
            have hcp := run_copy_row (P := Tryz.prog) wr.drew 78 78 3 5 g0 j (N - j) (N - j) ⟨g, 0, none⟩ r.size cap cur 5 cs Tryz.underlying78 (by kernel_rfl) hcb (by rw [hcsl]; simp [Nat.min_def]; omega) hsrc (by rw [hcsl]; omega) (fun v hv => by rw [← hcsd] at hv; obtain ⟨c, _, rfl⟩ := List.mem_map.1 hv; rfl)
            rw [hcsl] at hcp
            obtain ⟨nc, hnc⟩ : ∃ nc, (cur.toList.take j ++ cs ++ cur.toList.drop (j + r.size)).toArray = nc := ⟨_, rfl⟩
            rw [hnc] at hcp
            have hjt : (cur.toList.take j).length = j := by rw [List.length_take, Nat.min_eq_left]; show j ≤ cur.size; omega
            have hncs : nc.size = N := by
              rw [← hnc, List.size_toArray, List.length_append, List.length_append, hjt, hcsl, List.length_drop]
              show j + r.size + (cur.size - (j + r.size)) = N
              omega
            have hnct : nc.toList.take (j + r.size) = ((s.data.toList.take (i + 1)).flatMap escC).map (fun c => Value.int .u8 (c.toNat : Int)) := by
              rw [htk, List.flatMap_append, List.map_append, ← hct, List.flatMap_cons, List.flatMap_nil, List.append_nil, hesc, hcsd, ← hnc]
              exact List.take_left' (by rw [List.length_append, hjt, hcsl])
            have hS0 : wr.drew.cell? ⟨b, (bt s i).toNat, none⟩ = some (.slice (some ⟨g, 0, none⟩) r.size cap) := hcl
            have hS1 : (wr.drew.setRow g0 nc).cell? ⟨b, (bt s i).toNat, none⟩ = some (.slice (some ⟨g, 0, none⟩) r.size cap) := (cell_setRow_other _ _ _ _ hbg).trans hcl
            have hW : (wr.drew.setRow g0 nc).heap[g0]? = some (.cells nc 5 (0, 0)) := setRow_heap wr.drew g0 cur nc 5 (0, 0) hcb
            have hBW : Below w.heap.size w (wr.drew.setRow g0 nc) := ⟨hB.os, hB.tape, hB.output, by simpa [World.setRow] using hB.size, fun k hk => (setRow_other _ _ _ _ (by have := HLG.out; omega)).trans (hB.block k hk)⟩
            have f5 : IntKind.i64.wrap ((j : Int) + (r.size : Int)) = ((j + r.size : Nat) : Int) := by rw [IntWalk.i64_in _ (by omega)]; omega
            have HTS := Lib.hid hts; have HLT := Lib.hid hlt; have HNC := Lib.hid (And.intro hW (And.intro hncs (And.intro hnct hBW)))
            clear hg hj hcb hcs hct hB hBs hcl0 hts hrn hr hn hT hTN htk hbn hesc hlt hcsd hcsl hsrc hnc hjt hncs hnct hW hBW hRB hgl hrs
            go_upto_region 28 with fail
            refine wp_region_held_drew (S := fun w' => w'.cell? ⟨b, (bt s i).toNat, none⟩ = some (Value.slice (some ⟨g, 0, none⟩) r.size cap)) (by kernel_rfl) (hS0) (fun hHeld => ?_)
            refine wpAnyH_take (i := 0) (v := ?_) rfl (by kernel_rfl) (by kernel_rfl) (by kernel_rfl) (fun _ _ _ h => h) (Or.inl ⟨by rfl, ?_⟩) hHeld ?_
            rotate_left
            · intro w hSw; (try dsimp only at hSw); first | (go_simp; done) | (go_simp; with_reducible rfl)
            try simp only [Act.put, List.setIfInBounds_toArray, List.set_cons_zero, List.set_cons_succ, List.getElem_toArray, List.getElem_cons_zero]
            refine wpAnyH_take (i := 1) (v := ?_) rfl (by kernel_rfl) (by kernel_rfl) (by kernel_rfl) (fun _ _ _ h => h) (Or.inl ⟨by rfl, ?_⟩) hHeld ?_
            rotate_left
            · intro w hSw; (try dsimp only at hSw); first | (go_simp; done) | (go_simp; with_reducible rfl)
            try simp only [Act.put, List.setIfInBounds_toArray, List.set_cons_zero, List.set_cons_succ, List.getElem_toArray, List.getElem_cons_zero, List.getElem_cons_succ]
            refine wpAnyH_take (i := 2) (v := ?_) rfl (by kernel_rfl) (by kernel_rfl) (by kernel_rfl) (fun _ _ _ h => h) (Or.inl ⟨by rfl, ?_⟩) hHeld ?_
            rotate_left
            · intro w hSw; (try dsimp only at hSw); first | (go_simp; done) | (go_simp; with_reducible rfl)
            try simp only [Act.put, List.setIfInBounds_toArray, List.set_cons_zero, List.set_cons_succ, List.getElem_toArray, List.getElem_cons_zero, List.getElem_cons_succ]
            refine wpAnyH_take (i := 3) (v := ?_) rfl (by kernel_rfl) (by kernel_rfl) (by kernel_rfl) (fun _ _ _ h => h) (Or.inl ⟨by rfl, ?_⟩) hHeld ?_
            rotate_left
            · intro w hSw; (try dsimp only at hSw); first | (go_simp; done) | (go_simp; with_reducible rfl)
            try simp only [Act.put, List.setIfInBounds_toArray, List.set_cons_zero, List.set_cons_succ, List.getElem_toArray, List.getElem_cons_zero, List.getElem_cons_succ]
            refine wpAnyH_take (i := 4) (v := ?_) rfl (by kernel_rfl) (by kernel_rfl) (by kernel_rfl) (fun _ _ _ h => h) (Or.inl ⟨by rfl, ?_⟩) hHeld ?_
            rotate_left
            · intro w hSw; (try dsimp only at hSw); first | (go_simp; done) | (go_simp; with_reducible rfl)
            try simp only [Act.put, List.setIfInBounds_toArray, List.set_cons_zero, List.set_cons_succ, List.getElem_toArray, List.getElem_cons_zero, List.getElem_cons_succ]
            refine wpAnyH_take (i := 5) (v := ?_) rfl (by kernel_rfl) (by kernel_rfl) (by kernel_rfl) (fun _ _ _ h => h) (Or.inl ⟨by rfl, ?_⟩) hHeld ?_
            rotate_left
            · intro w hSw; (try dsimp only at hSw); first | (go_simp; done) | (go_simp; with_reducible rfl)
            try simp only [Act.put, List.setIfInBounds_toArray, List.set_cons_zero, List.set_cons_succ, List.getElem_toArray, List.getElem_cons_zero, List.getElem_cons_succ]
            refine wpAnyH_take (i := 6) (v := ?_) rfl (by kernel_rfl) (by kernel_rfl) (by kernel_rfl) (fun _ _ _ h => h) (Or.inl ⟨by rfl, ?_⟩) hHeld ?_
            rotate_left
            · intro w hSw; (try dsimp only at hSw); first | (go_simp; done) | (go_simp; with_reducible rfl)
            try simp only [Act.put, List.setIfInBounds_toArray, List.set_cons_zero, List.set_cons_succ, List.getElem_toArray, List.getElem_cons_zero, List.getElem_cons_succ]
            refine wpAnyH_take (i := 7) (v := ?_) rfl (by kernel_rfl) (by kernel_rfl) (by kernel_rfl) (fun _ _ _ h => h) (Or.inl ⟨by rfl, ?_⟩) hHeld ?_
            rotate_left
            · intro w hSw; (try dsimp only at hSw); first | (go_simp; done) | (go_simp; with_reducible rfl)
            try simp only [Act.put, List.setIfInBounds_toArray, List.set_cons_zero, List.set_cons_succ, List.getElem_toArray, List.getElem_cons_zero, List.getElem_cons_succ]
            refine wpAnyH_take (i := 8) (v := ?_) rfl (by kernel_rfl) (by kernel_rfl) (by kernel_rfl) (fun _ _ _ h => h) (Or.inl ⟨by rfl, ?_⟩) hHeld ?_
            rotate_left
            · intro w hSw; (try dsimp only at hSw); first | (go_simp; done) | (go_simp; with_reducible rfl)
            try simp only [Act.put, List.setIfInBounds_toArray, List.set_cons_zero, List.set_cons_succ, List.getElem_toArray, List.getElem_cons_zero, List.getElem_cons_succ]
            refine wpAnyH_take (i := 9) (v := ?_) rfl (by kernel_rfl) (by kernel_rfl) (by kernel_rfl) (fun _ _ _ h => h) (Or.inl ⟨by rfl, ?_⟩) hHeld ?_
            rotate_left
            · intro w hSw; (try dsimp only at hSw); first | (go_simp; done) | (go_simp; with_reducible rfl)
            try simp only [Act.put, List.setIfInBounds_toArray, List.set_cons_zero, List.set_cons_succ, List.getElem_toArray, List.getElem_cons_zero, List.getElem_cons_succ]
            refine wpAnyH_ready (rs := [10]) (by kernel_rfl) (by simp) ?_
            refine AllReadyH.cons rfl (fun K hK => ?_) AllReadyH.nil
            go_simp
            refine hK.out _ _ (hS1) (fun hHeld => ?_)
            clear hK K
            refine wpAnyH_take (i := 11) (v := ?_) rfl (by kernel_rfl) (by kernel_rfl) (by kernel_rfl) (fun _ _ _ h => h) (Or.inl ⟨by rfl, ?_⟩) hHeld ?_
            rotate_left
            · intro w hSw; (try dsimp only at hSw); first | (go_simp; done) | (go_simp; with_reducible rfl)
            try simp only [Act.put, List.setIfInBounds_toArray, List.set_cons_zero, List.set_cons_succ, List.getElem_toArray, List.getElem_cons_zero, List.getElem_cons_succ]
            refine wpAnyH_take (i := 12) (v := ?_) rfl (by kernel_rfl) (by kernel_rfl) (by kernel_rfl) (fun _ _ _ h => h) (Or.inl ⟨by rfl, ?_⟩) hHeld ?_
            rotate_left
            · intro w hSw; (try dsimp only at hSw); first | (go_simp; done) | (go_simp; with_reducible rfl)
            try simp only [Act.put, List.setIfInBounds_toArray, List.set_cons_zero, List.set_cons_succ, List.getElem_toArray, List.getElem_cons_zero, List.getElem_cons_succ]
            refine wpAnyH_done (by kernel_rfl) ?_ _
            go_wp2_with fail
            go_roundg (s.size - i)
            case rel => exact ⟨i + 1, j + r.size, nc, by simp, by have := HG.out.1; have := HLT.out; omega, HLT.out, by have := HG.out.2; have := HTS.out; omega, by simp, HNC.out.1, HNC.out.2.1, HNC.out.2.2.1, HNC.out.2.2.2⟩
            case measure => have := HG.out; have := HLT.out; omega
        · have hiI : ¬ (i : Int) < s.size := by omega
          have hall := T_all s i (by omega)
          have hfull : s.data.toList.take i = s.data.toList := List.take_of_length_le (show s.data.toList.length ≤ i by show s.size ≤ i; omega)
          have hjN : j = N := by rw [hj, hall, HN.out]
          rw [hfull, hjN, ← hcs] at hct
          have hcl : cur.toList = (s.data.toList.flatMap escC).map (fun c => Value.int .u8 (c.toNat : Int)) := by
            rw [← hct]
            exact (List.take_of_length_le (Nat.le_refl _)).symm
          have hes : (escB s).size = N := by rw [← HN.out]; rfl
          have hby : Lib.Bytes wr g0 0 (escB s) := fun k hk => by
            rw [Nat.zero_add, cellH hcb k, ← Array.getElem?_toList, hcl, List.getElem?_map]
            have hk2 : k < (s.data.toList.flatMap escC).length := hk
            rw [List.getElem?_eq_getElem hk2]
            rfl
          have hback := Lib.run_convert_whole (P := Tryz.prog) wr 78 5 9 Tryz.underlying78 Tryz.underlying5 Tryz.underlying9 _ _ _ hby N
          rw [hes] at hback
          clear hg hj hcb hcs hct hB hcl hby hes hfull hjN hall
          go_wp2_with fail
          go_ret
          exact ⟨rfl, HBR.out⟩
    · rw [decide_eq_false hany]
      have hsame : s.data.toList.flatMap escC = s.data.toList := esc_same (by rw [HN.out]; show N = s.size; omega)
      have hs : escB s = s := by unfold escB; rw [hsame]
      have HS := Lib.hid hs
      clear hany hsame hs
      go_wp2_with fail
      go_ret
      exact ⟨by rw [HS.out]; rfl, HB.out⟩
end

section
open Go.RowKit Go.PlainAid

theorem Bsr.above {lo b : Nat} {L : List (Nat × ByteArray)} {cs : Array Value} {v : Value} {w w' : World} (h : Bsr lo b L cs v w) (hB : ∀ k, lo ≤ k → k < w.heap.size → w'.heap[k]? = w.heap[k]?) : Bsr lo b L cs v w' := by
  refine ⟨(hB b h.lo (lt_some h.blk)).trans h.blk, h.size, fun c hc => ?_, h.last, h.row.later (fun g hg => hB g (h.row.own g hg) (h.row.lt g hg)), h.lo⟩
  have hr := h.rep c hc
  cases ho : rplL L c with
  | none => rw [ho] at hr; exact hr
  | some r =>
    rw [ho] at hr
    obtain ⟨g, cap, h1, h2, h3⟩ := hr
    obtain ⟨ca, fz, h4, _⟩ := id h3
    exact ⟨g, cap, h1, h2, h3.later (hB g h2 (lt_some h4))⟩
/-- A Replacer that is built. -/
def RepOk (lo rp : Nat) (w : World) : Prop := ∃ b cs v, w.cell? ⟨rp, 3, none⟩ = some (.iface 191 (.pointer (some ⟨b, 0, none⟩))) ∧ Bsr lo b esc4 cs v w

set_option maxRecDepth 100000 in
set_option maxHeartbeats 2000000 in
theorem buildOnce_any (lo rp : Nat) (x y z v : Value) (w : World) (h : w.heap[rp]? = some (.cells #[x, y, z, .nilIface, v] 144 (0, 0))) (hrow : GRow StrE lo w v esc8) :
    Calls Tryz.prog 87 #[.pointer (some ⟨rp, 0, none⟩)] w fun e w' => e = .returned (.tuple #[]) ∧ ∃ b cs v', w'.heap[rp]? = some (.cells #[x, y, z, .iface 191 (.pointer (some ⟨b, 0, none⟩)), .slice none 0 0] 144 (0, 0)) ∧ Bsr w.heap.size b esc4 cs v' w' ∧ KeepX w.heap.size rp w w' := by
  rcases hrow.read with ⟨e, _⟩ | ⟨og, oc, hv, _⟩
  · cases e
  subst hv
  have h4 : w.cell? ⟨rp, 4, none⟩ = some (.slice (some ⟨og, 0, none⟩) 8 oc) := cellH h 4
  have hbu := build_any lo rp og oc w h4 hrow
  have hrp := lt_some h
  have HH := Lib.hid h
  clear h hrow h4
  go_enter Tryz.func87, Tryz.ntmps87
  go_wp2_with fail
  refine hbu.mono ?_
  rintro e w1 ⟨b, cs, v', rfl, hb, hB, hBs⟩
  have h1 := (hB.block rp hrp).trans HH.out
  have c3 : w1.cell? ⟨rp, 3, none⟩ = some .nilIface := cellH h1 3
  have c4 : w1.cell? ⟨rp, 4, none⟩ = some (.slice (some ⟨og, 0, none⟩) 8 oc) := cellH h1 4
  have f3 := freeH h1 3
  have f4 := freeH h1 4
  have HB := Lib.hid hB; have HBS := Lib.hid hBs; have H1 := Lib.hid h1
  clear hB hBs h1 hbu
  go_wp2_with fail
  first | go_end0 | skip
  refine ⟨rfl, b, cs, v', setH (setH H1.out 3 _) 4 _, HBS.out.above (fun k hk _ => ?_), (KeepX.of HB.out (Nat.le_refl _)).trans (((KeepX.refl _ _ _).setCell 3 _).setCell 4 _)⟩
  exact (Below.heap_setCell _ _ _ _ (by simp; omega)).trans (Below.heap_setCell _ _ _ _ (by simp; omega))

set_option maxRecDepth 100000 in
theorem load_done (a : Addr) (w : World) (hc : w.cell? a = some (.int .u32 0)) :
    Calls Tryz.prog 110 #[.pointer (some a)] w fun e w' => e = .returned (.bool false) ∧ w = w' := by
  have hld := run_call_load (P := Tryz.prog) Tryz.func138 (by kernel_rfl) (by kernel_rfl) (by kernel_rfl) .u32 (by kernel_rfl) (w := w) (a := a) (x := 0) hc
  go_enter Tryz.func110, Tryz.ntmps110
  go_wp2
  go_ret
  exact ⟨rfl, rfl⟩

set_option maxRecDepth 100000 in
set_option maxHeartbeats 4000000 in
theorem doSlow_any (lo rp : Nat) (v : Value) (w : World) (h : RepNew lo rp v w) (hlo : lo ≤ rp) :
    Calls Tryz.prog 111 #[.pointer (some ⟨rp, 0, none⟩), .func (.func 87) #[.pointer (some ⟨rp, 0, none⟩)] #[]] w fun e w' => e = .returned (.tuple #[]) ∧ RepOk w.heap.size rp w' ∧ KeepX w.heap.size rp w w' := by
  obtain ⟨hb, hrow⟩ := h
  have hrp := lt_some hb
  have hb1 := setH hb 1 (.int .i32 1)
  have hrow1 : GRow StrE lo (w.setCell ⟨rp, 1, none⟩ (.int .i32 1)) v esc8 := hrow.later (fun g hg => Below.heap_setCell _ _ _ _ (by
    intro e
    obtain ⟨c, hc⟩ := hrow.kind g hg
    simp only at e
    subst e
    exact kinds_ne hc hb (by decide)))
  have hbo := buildOnce_any lo rp _ _ _ v (w.setCell ⟨rp, 1, none⟩ (.int .i32 1)) hb1 hrow1
  have hld := load_done ⟨rp, 0, none⟩ (w.setCell ⟨rp, 1, none⟩ (.int .i32 1)) (cellH hb1 0)
  have hnot : ∀ (x : Bool) (w : World), (Op.unary .not (.bool x)).run Tryz.prog w = .ok (.bool (!x)) w := fun _ _ => rfl
  have hs1 : (w.setCell ⟨rp, 1, none⟩ (.int .i32 1)).heap.size = w.heap.size := by simp [World.setCell]
  rw [hs1] at hbo
  have hc1 : w.cell? ⟨rp, 1, none⟩ = some (.int .i32 0) := cellH hb 1
  have hf1 := freeH hb 1
  have HK1 := Lib.hid ((KeepX.refl w.heap.size rp w).setCell 1 (.int .i32 1))
  have HBO := Lib.hid hbo
  clear hb hb1 hrow hrow1 hbo
  go_enter_defers Tryz.func111, Tryz.ntmps111
  go_wp2_with (go_at_call 139; refine (lock_free ⟨rp, 1, none⟩ _ (by go_simp) (by go_simp)).mono ?_; rintro e w' ⟨rfl, rfl⟩)
  go_wp2_with fail
  refine hld.mono ?_
  rintro e w' ⟨rfl, rfl⟩
  go_wp2_with fail
  refine HBO.out.mono ?_
  rintro e w3 ⟨rfl, b, cs, v', hb3, hB3, hK3⟩
  go_wp2_with fail
  refine leaves_cons (f := 141) (args := #[.pointer (some ⟨rp, 0, none⟩), .bool true]) (by simp) (by simp [go_sem]) ?_
  refine (store_deferred ⟨rp, 0, none⟩ (.int .u32 0) .returning _ (cellH hb3 0) (freeH hb3 0)).mono ?_
  rintro e u' w'' ⟨rfl, rfl, rfl⟩
  have hb4 := setH (w := w3.drew) hb3 0 (.int .u32 1)
  refine leaves_cons (f := 140) (args := #[.pointer (some ⟨rp, 1, none⟩)]) (by simp [settle]) (by simp [go_sem]) ?_
  refine (unlock_deferred ⟨rp, 1, none⟩ _ _ (cellH hb4 1) (freeH hb4 1)).mono ?_
  rintro e u' w'' ⟨rfl, rfl, rfl⟩
  have hb5 := setH hb4 1 (.int .i32 0)
  show Leaves _ _ _ _ [] .returning _
  refine ⟨_, results_none rfl _ _ _, rfl, ⟨b, cs, v', cellH hb5 3, hB3.above (fun k hk _ => ?_)⟩, HK1.out.trans ((hK3.drew.setCell 0 _).setCell 1 _)⟩
  exact (Below.heap_setCell _ _ _ _ (by simp; omega)).trans (Below.heap_setCell _ _ _ _ (by simp; omega))

set_option maxRecDepth 100000 in
set_option maxHeartbeats 2000000 in
theorem onceDo_any (lo rp : Nat) (v : Value) (w : World) (h : RepNew lo rp v w) (hlo : lo ≤ rp) :
    Calls Tryz.prog 86 #[.pointer (some ⟨rp, 0, none⟩), .func (.func 87) #[.pointer (some ⟨rp, 0, none⟩)] #[]] w fun e w' => e = .returned (.tuple #[]) ∧ RepOk w.heap.size rp w' ∧ KeepX w.heap.size rp w w' := by
  have hld := load_done ⟨rp, 0, none⟩ w (cellH h.1 0)
  have HDS := Lib.hid (doSlow_any lo rp v w h hlo)
  clear h
  go_enter Tryz.func86, Tryz.ntmps86
  go_wp2_with fail
  refine hld.mono ?_
  rintro e w' ⟨rfl, rfl⟩
  go_wp2_with fail
  refine HDS.out.mono ?_
  rintro e w' ⟨rfl, hR, hK⟩
  go_wp2_with fail
  first | go_end0 | skip
  exact ⟨rfl, hR, hK⟩

set_option maxRecDepth 100000 in
set_option maxHeartbeats 2000000 in
theorem replace_any (lo rp : Nat) (v : Value) (s : ByteArray) (w : World) (h : RepNew lo rp v w) (hlo : lo ≤ rp) (hz : s.size ≤ 4000000000) :
    Calls Tryz.prog 61 #[.pointer (some ⟨rp, 0, none⟩), .string s] w fun e w' => e = .returned (.string (escB s)) ∧ KeepX w.heap.size rp w w' := by
  have HDO := Lib.hid (onceDo_any lo rp v w h hlo)
  have hmf : ∀ (fn : Fn) (first cap : Array Value) (w : World), (Instr.makeFunc fn first cap).run Tryz.prog w = .ok (.func fn first cap) w := fun _ _ _ _ => rfl
  clear h
  go_enter Tryz.func61, Tryz.ntmps61
  go_wp2_with fail
  refine HDO.out.mono ?_
  rintro e w1 ⟨rfl, ⟨b, cs, v', hc3, hBs⟩, hK⟩
  have hre := bsrReplace_any w.heap.size b cs v' s w1 hBs hz
  have HK := Lib.hid hK; have HRE := Lib.hid hre
  clear hK hBs hre
  go_wp2_with fail
  refine HRE.out.mono ?_
  rintro e w2 ⟨rfl, hB⟩
  have hK2 := HK.out.on hB (Nat.le_refl _)
  clear hB
  go_wp2_with fail
  go_ret
  exact ⟨rfl, hK2⟩

/-- What Escape hands back. -/
def escT (s : ByteArray) : ByteArray := if takenE s = 0 then escB s else ⟨#[]⟩
set_option maxRecDepth 100000 in
set_option maxHeartbeats 2000000 in
theorem escape_any (s : ByteArray) (w : World) (hz : s.size ≤ 4000000000) :
    Calls Tryz.prog 34 #[.string s] w fun e w' => e = .returned (.tuple #[.string (escT s), .int .i64 (takenE s)]) ∧ Below w.heap.size w w' := by
  have hta := taken_any s w (by omega)
  by_cases h0 : takenE s = 0
  · have hx : escT s = escB s := by unfold escT; rw [if_pos h0]
    rw [h0] at hta ⊢
    have HX := Lib.hid hx
    clear hx h0
    go_enter Tryz.func34, Tryz.ntmps34
    go_wp2_with fail
    refine hta.mono ?_
    rintro e w1 ⟨rfl, hB1⟩
    have hg : Blk (w1.alloc (.cells (StrE.cs esc8).toArray 9)) w1.heap.size (StrE.cs esc8).toArray := Blk.new _ _ _
    have hnr := newReplacer_any w1.heap.size 8 (w1.alloc (.cells (StrE.cs esc8).toArray 9)) hg
    have HNR := Lib.hid hnr
    clear hta hg hnr
    go_wp2_with fail
    refine HNR.out.mono ?_
    rintro e w2 ⟨rp, v, rfl, hlo, hR, hB2⟩
    have hre := replace_any _ rp v s w2 hR hlo hz
    have hB3 : Below w.heap.size w w2 := hB1.trans (((((Below.refl w1.heap.size w1).alloc (Nat.le_refl _) (.cells (StrE.cs esc8).toArray 9))).trans (hB2.mono (by simp))).mono hB1.size)
    have hlo1 : w.heap.size ≤ rp := by have := hB1.size; simp at hlo; omega
    have HRE := Lib.hid hre; have HB3 := Lib.hid hB3
    clear hre hB3 hR hB2 hB1 HNR
    go_wp2_with fail
    refine HRE.out.mono ?_
    rintro e w3 ⟨rfl, hK⟩
    have hB4 := HB3.out.trans (hK.below HB3.out.size hlo1)
    clear hK
    go_wp2_with fail
    refine bodyPost_ret (results_tmp2 rfl _ _ _) rfl ?_
    exact ⟨by rw [HX.out]; rfl, hB4⟩
  · have hx : escT s = ⟨#[]⟩ := by unfold escT; rw [if_neg h0]
    obtain ⟨k, hk⟩ : ∃ k, takenE s = k := ⟨_, rfl⟩
    rw [hk] at hta h0 ⊢
    have hk0 : (k == 0) = false := by simpa using h0
    have HX := Lib.hid hx
    clear hx hk
    go_enter Tryz.func34, Tryz.ntmps34
    go_wp2_with fail
    refine hta.mono ?_
    rintro e w1 ⟨rfl, hB1⟩
    go_wp2_with fail
    refine bodyPost_ret (results_tmp2 rfl _ _ _) rfl ?_
    exact ⟨by rw [HX.out]; rfl, hB1⟩
end
end Go.Proofs.YtdipbfchlopeaaaGreatDoor
