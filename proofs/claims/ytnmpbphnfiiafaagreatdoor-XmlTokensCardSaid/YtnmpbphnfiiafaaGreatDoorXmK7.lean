/-
  strings.Replacer's build at Escape's eight texts.
-/
import Derived.Test.YtnmpbphnfiiafaaGreatDoorXmK6
import Derived.Great.Walk
import Derived.Laws.Cover3
namespace Go.Proofs.YtnmpbphnfiiafaaGreatDoor
open Go.RowKit Go.PlainAid Go.Great

theorem esc_cells {lo og oc : Nat} {w : World} (h : GRow StrE lo w (.slice (some ⟨og, 0, none⟩) 8 oc) esc8) :
    w.cell? ⟨og, 0, none⟩ = some (.string ⟨#[38]⟩) ∧
    w.cell? ⟨og, 1, none⟩ = some (.string ⟨#[38, 97, 109, 112, 59]⟩) ∧
    w.cell? ⟨og, 2, none⟩ = some (.string ⟨#[60]⟩) ∧
    w.cell? ⟨og, 3, none⟩ = some (.string ⟨#[38, 108, 116, 59]⟩) ∧
    w.cell? ⟨og, 4, none⟩ = some (.string ⟨#[62]⟩) ∧
    w.cell? ⟨og, 5, none⟩ = some (.string ⟨#[38, 103, 116, 59]⟩) ∧
    w.cell? ⟨og, 6, none⟩ = some (.string ⟨#[34]⟩) ∧
    w.cell? ⟨og, 7, none⟩ = some (.string ⟨#[38, 113, 117, 111, 116, 59]⟩) := by
  rcases h.read with ⟨e, _⟩ | ⟨g, cap, hv, _, _, _, _, hc⟩
  · cases e
  · injection hv with e1 _ _
    injection e1 with e1
    injection e1 with e1
    subst e1
    exact ⟨hc 0 (by decide) 0 (by decide), hc 1 (by decide) 0 (by decide), hc 2 (by decide) 0 (by decide), hc 3 (by decide) 0 (by decide), hc 4 (by decide) 0 (by decide), hc 5 (by decide) 0 (by decide), hc 6 (by decide) 0 (by decide), hc 7 (by decide) 0 (by decide)⟩

theorem bsr_zero : Tryz.zeroCells144 = Array.replicate 257 (.slice none 0 0) := by kernel_rfl
/-- What build lays at first. -/
noncomputable def bsr0 (a : Option Addr) (n c : Nat) : Array Value := (Tryz.zeroCells144.toList.set 256 (.slice a n c)).toArray
theorem bsr0_size (a : Option Addr) (n c : Nat) : (bsr0 a n c).size = 257 := by
  unfold bsr0
  rw [bsr_zero, List.size_toArray, List.length_set, Array.length_toList, Array.size_replicate]
theorem bsr_len (a : Option Addr) (n c : Nat) : (Tryz.zeroCells144.toList.set 256 (.slice a n c)).length = Tryz.zeroCells144.size := by simp
theorem bsr_one (a : Option Addr) (n c : Nat) : ∀ v ∈ Tryz.zeroCells144.toList.set 256 (.slice a n c), v.oneCell' = true := by
  intro v hv
  rcases List.mem_or_eq_of_mem_set hv with h | rfl
  · rw [bsr_zero, Array.toList_replicate, List.mem_replicate] at h
    rw [h.2]
    rfl
  · rfl
theorem run_store_bsr (w : World) (a : Option Addr) (n c g : Nat) (h : w.heap[g]? = some (.cells Tryz.zeroCells144 144 (0, 0))) :
    (storeCells ⟨g, 0, none⟩ (Tryz.zeroCells144.toList.set 256 (.slice a n c))).run Tryz.prog w = .ok () (w.setRow g (bsr0 a n c)) := by
  have h1 := run_storeCells_from (P := Tryz.prog) g 144 (Tryz.zeroCells144.toList.set 256 (.slice a n c)) 0 Tryz.zeroCells144 w h (by rw [Nat.zero_add]; exact bsr_len a n c) (bsr_one a n c)
  rw [List.take_zero, List.nil_append] at h1
  exact h1
theorem eql_slice (a : Option Addr) (l c : Nat) (w : World) : (binOp .eql 60 (.slice a l c) (.slice none 0 0)).run Tryz.prog w = .ok (.bool a.isNone) w := by
  have h := run_equal_slice_nil (P := Tryz.prog) (w := w) 60 5 a l c Tryz.underlying60
  simp only [binOp]
  simp [h]
theorem kinds_ne2 {w : World} {k : Nat} {c c' : Array Value} {T T' : TypeId} {f f' : Nat × Nat} (h : w.heap[k]? = some (.cells c T f)) (h' : w.heap[k]? = some (.cells c' T' f')) (hT : T ≠ T') : False := by
  rw [h] at h'
  injection h' with h'
  injection h' with _ h'
  exact hT h'
/-- Bytes of a block of their own. -/
def RB (w : World) (g : Nat) (r : ByteArray) : Prop := ∃ cs fz, w.heap[g]? = some (.cells cs 5 fz) ∧ ∀ j, j < r.size → cs[j]? = some (.int .u8 (bt r j))
def rplL (L : List (Nat × ByteArray)) (c : Nat) : Option ByteArray := (L.find? (fun p => p.1 == c)).map (·.2)
/-- A byte's replacement in memory. -/
def RepC (lo : Nat) (w : World) (o : Option ByteArray) (x : Option Value) : Prop :=
  match o with
  | none => x = some (.slice none 0 0)
  | some r => ∃ g cap, x = some (.slice (some ⟨g, 0, none⟩) r.size cap) ∧ lo ≤ g ∧ RB w g r
/-- The replacer, as far as it is built. -/
structure Bsr (lo b : Nat) (L : List (Nat × ByteArray)) (cs : Array Value) (v : Value) (w : World) : Prop where
  blk : w.heap[b]? = some (.cells cs 144 (0, 0))
  size : cs.size = 257
  rep : ∀ c, c < 256 → RepC lo w (rplL L c) cs[c]?
  last : cs[256]? = some v
  row : GRow StrE lo w v (L.map fun p => (⟨#[p.1.toUInt8]⟩ : ByteArray))
  lo : lo ≤ b
theorem conv_blk (w : World) (s : ByteArray) : ∃ (cap : Nat) (w1 : World), (convert 9 60 (.string s)).run Tryz.prog w = .ok (.slice (some ⟨w.heap.size, 0, none⟩) s.size cap) w1 ∧ Below w.heap.size w w1 ∧ RB w1 w.heap.size s := by
  refine ⟨_, _, Lib.run_convert_string_bytes w _ _ 5 s Tryz.underlying9 Tryz.underlying60 Tryz.underlying5, ⟨rfl, rfl, rfl, by rw [Lib.bytesWorld_size]; omega, fun k hk => Lib.bytesWorld_at_old w _ s k hk⟩, ⟨_, _, Lib.bytesWorld_at_new w _ s, fun j hj => ?_⟩⟩
  have h := Lib.bytesWorld_cell w 5 s j hj
  rw [cellH (Lib.bytesWorld_at_new w 5 s) j] at h
  rw [h, ← get_bt s j hj]
  simp [List.getD, hj]
  rfl
theorem RB.later {w w' : World} {g : Nat} {r : ByteArray} (h : RB w g r) (hb : w'.heap[g]? = w.heap[g]?) : RB w' g r := by
  obtain ⟨cs, fz, h1, h2⟩ := h
  exact ⟨cs, fz, hb.trans h1, h2⟩
theorem RepC.later {lo : Nat} {w w' : World} {o : Option ByteArray} {x : Option Value} (h : RepC lo w o x) (hb : ∀ (g : Nat) c fz, w.heap[g]? = some (.cells c 5 fz) → w'.heap[g]? = w.heap[g]?) : RepC lo w' o x := by
  cases o with
  | none => exact h
  | some r =>
    obtain ⟨g, cap, h1, h2, h3⟩ := h
    obtain ⟨cs, fz, h4, _⟩ := id h3
    exact ⟨g, cap, h1, h2, h3.later (hb g cs fz h4)⟩
theorem rplL_snoc (L : List (Nat × ByteArray)) (o : Nat) (n : ByteArray) (c : Nat) (h : rplL L o = none) : rplL (L ++ [(o, n)]) c = if c = o then some n else rplL L c := by
  unfold rplL at h ⊢
  rw [List.find?_append]
  by_cases hc : c = o
  · subst hc
    rw [if_pos rfl]
    rw [Option.map_eq_none_iff] at h
    rw [h]
    simp
  · rw [if_neg hc]
    have : ([(o, n)] : List (Nat × ByteArray)).find? (fun p => p.1 == c) = none := by simp; omega
    rw [this]
    simp
/-- One pair more. -/
theorem Bsr.step {lo b o : Nat} {n : ByteArray} {L : List (Nat × ByteArray)} {cs : Array Value} {v v' : Value} {w w6 w8 : World} {o1 o2 : Obj} {cap : Nat} (h : Bsr lo b L cs v w) (ho : o < 256) (hn : rplL L o = none) (hlo : lo ≤ w.heap.size)
    (hr : GRow StrE lo w6 v' (L.map (fun p => (⟨#[p.1.toUInt8]⟩ : ByteArray)) ++ [⟨#[o.toUInt8]⟩])) (hg : ((w.alloc o1).alloc o2).grownBy w6 v.ownBlock)
    (hB : Below (w6.setCell ⟨b, 256, none⟩ v').heap.size (w6.setCell ⟨b, 256, none⟩ v') w8) (hR : RB w8 (w6.setCell ⟨b, 256, none⟩ v').heap.size n) :
    (∀ k, k < w.heap.size → v.ownBlock ≠ some k → w6.heap[k]? = w.heap[k]?) ∧ w.heap.size ≤ w6.heap.size ∧
    ∃ cs', Bsr lo b (L ++ [(o, n)]) cs' v' (w8.setCell ⟨b, o, none⟩ (.slice (some ⟨(w6.setCell ⟨b, 256, none⟩ v').heap.size, 0, none⟩) n.size cap)) := by
  have hkey : ∀ k, k < w.heap.size → v.ownBlock ≠ some k → w6.heap[k]? = w.heap[k]? := fun k hk hne =>
    (hg.block k (by simp; omega) (fun e => hne e.symm)).trans ((Lib.alloc_old _ _ k (by simp; omega)).trans (Lib.alloc_old w _ k hk))
  have hz6 : w.heap.size ≤ w6.heap.size := by
    have h1 := hg.size
    simp at h1
    omega
  have hvk : ∀ g, v.ownBlock = some g → ∃ c, w.heap[g]? = some (.cells c 9 (0, 0)) := fun g hg => h.row.kind g hg
  have hbw : b < w.heap.size := lt_some h.blk
  have hvb : v.ownBlock ≠ some b := fun e => by
    obtain ⟨c, hc⟩ := hvk b e
    exact kinds_ne hc h.blk (by decide)
  have hb6 := (hkey b hbw hvb).trans h.blk
  have hs7 : (w6.setCell ⟨b, 256, none⟩ v').heap.size = w6.heap.size := by simp [World.setCell]
  have hb7 := setH hb6 256 v'
  have hb8 := (hB.block b (by rw [hs7]; omega)).trans hb7
  have hsame : ∀ k, k < w.heap.size → v.ownBlock ≠ some k → k ≠ b → (w8.setCell ⟨b, o, none⟩ (.slice (some ⟨(w6.setCell ⟨b, 256, none⟩ v').heap.size, 0, none⟩) n.size cap)).heap[k]? = w.heap[k]? := fun k hk hne hx =>
    (Below.heap_setCell _ _ _ _ hx).trans ((hB.block k (by rw [hs7]; omega)).trans ((Below.heap_setCell _ _ _ _ hx).trans (hkey k hk hne)))
  refine ⟨hkey, hz6, _, ⟨setH hb8 o _, by simp [h.size], fun c hc => ?_, ?_, ?_, h.lo⟩⟩
  · rw [rplL_snoc L o n c hn]
    by_cases hco : c = o
    · subst hco
      rw [if_pos rfl]
      refine ⟨_, cap, Array.getElem?_setIfInBounds_self_of_lt (by simp [h.size]; omega), by rw [hs7]; omega, hR.later (Below.heap_setCell _ _ _ _ (by rw [hs7]; show w6.heap.size ≠ b; omega))⟩
    · rw [if_neg hco, Array.getElem?_setIfInBounds_ne (by omega), Array.getElem?_setIfInBounds_ne (by omega)]
      exact RepC.later (h.rep c hc) (fun g c fz hgc => hsame g (lt_some hgc) (fun e => by
        obtain ⟨c', hc'⟩ := hvk g e
        exact kinds_ne2 hc' hgc (by decide)) (fun e => by subst e; exact kinds_ne2 hgc h.blk (by decide)))
  · rw [Array.getElem?_setIfInBounds_ne (by omega)]
    exact Array.getElem?_setIfInBounds_self_of_lt (by rw [h.size]; omega)
  · rw [List.map_append]
    refine hr.later (fun g hv' => ?_)
    obtain ⟨c, hc⟩ := hr.kind g hv'
    have hgb : g ≠ b := fun e => by subst e; exact kinds_ne hc hb6 (by decide)
    exact (Below.heap_setCell _ _ _ _ hgb).trans ((hB.block g (by rw [hs7]; exact lt_some hc)).trans (Below.heap_setCell _ _ _ _ hgb))

set_option maxRecDepth 100000 in
set_option maxHeartbeats 4000000 in
theorem build_any (lo rp og oc : Nat) (w : World) (h4 : w.cell? ⟨rp, 4, none⟩ = some (.slice (some ⟨og, 0, none⟩) 8 oc)) (hrow : GRow StrE lo w (.slice (some ⟨og, 0, none⟩) 8 oc) esc8) :
    Calls Tryz.prog 95 #[.pointer (some ⟨rp, 0, none⟩)] w fun en w' => ∃ b cs v, en = .returned (.iface 145 (.pointer (some ⟨b, 0, none⟩))) ∧ w.heap.size ≤ b ∧ Below w.heap.size w w' ∧ Bsr w.heap.size b ([(34, (⟨#[38, 113, 117, 111, 116, 59]⟩ : ByteArray)), (62, (⟨#[38, 103, 116, 59]⟩ : ByteArray)), (60, (⟨#[38, 108, 116, 59]⟩ : ByteArray)), (38, (⟨#[38, 97, 109, 112, 59]⟩ : ByteArray))]) cs v w' := by
  obtain ⟨e0, e1, e2, e3, e4, e5, e6, e7⟩ := esc_cells hrow
  have z0 : (⟨#[38]⟩ : ByteArray).size = 1 := rfl
  have z1 : (⟨#[38, 97, 109, 112, 59]⟩ : ByteArray).size = 5 := rfl
  have z2 : (⟨#[60]⟩ : ByteArray).size = 1 := rfl
  have z3 : (⟨#[38, 108, 116, 59]⟩ : ByteArray).size = 4 := rfl
  have z4 : (⟨#[62]⟩ : ByteArray).size = 1 := rfl
  have z5 : (⟨#[38, 103, 116, 59]⟩ : ByteArray).size = 4 := rfl
  have z6 : (⟨#[34]⟩ : ByteArray).size = 1 := rfl
  have z7 : (⟨#[38, 113, 117, 111, 116, 59]⟩ : ByteArray).size = 6 := rfl
  have HROW := Lib.hid hrow
  have hen := fun W => eql_slice none 0 0 W
  simp only [Option.isNone_none] at hen
  clear hrow
  go_enter Tryz.func95, Tryz.ntmps95
  go_upto_region 6 with fail
  go_loopg [5, 4] 5 (fun f s5 s4 wx => w = wx ∧ ((f = 5 ∧ s5 = .int .i64 0 ∧ s4 = .bool true) ∨ (f = 4 ∧ s5 = .int .i64 2 ∧ s4 = .bool false) ∨ (f = 3 ∧ s5 = .int .i64 4 ∧ s4 = .bool false) ∨ (f = 2 ∧ s5 = .int .i64 6 ∧ s4 = .bool false) ∨ (f = 1 ∧ s5 = .int .i64 8 ∧ s4 = .bool false)))
  case atStart => exact ⟨rfl, .inl ⟨rfl, rfl, rfl⟩⟩
  case round =>
    obtain ⟨rfl, ⟨rfl, rfl, rfl⟩ | ⟨rfl, rfl, rfl⟩ | ⟨rfl, rfl, rfl⟩ | ⟨rfl, rfl, rfl⟩ | ⟨rfl, rfl, rfl⟩⟩ := hrel
    · go_wp2_with fail
      go_roundg 4
      case rel => exact ⟨rfl, .inr (.inl ⟨rfl, rfl, rfl⟩)⟩
      case measure => omega
    · go_wp2_with fail
      go_roundg 3
      case rel => exact ⟨rfl, .inr (.inr (.inl ⟨rfl, rfl, rfl⟩))⟩
      case measure => omega
    · go_wp2_with fail
      go_roundg 2
      case rel => exact ⟨rfl, .inr (.inr (.inr (.inl ⟨rfl, rfl, rfl⟩)))⟩
      case measure => omega
    · go_wp2_with fail
      go_roundg 1
      case rel => exact ⟨rfl, .inr (.inr (.inr (.inr ⟨rfl, rfl, rfl⟩)))⟩
      case measure => omega
    · go_upto_region 26 with fail
      obtain ⟨i0, hi, hz0, hz1, hz2⟩ := info_parts StrE.info
      obtain ⟨w6, hmk, hown, hgr⟩ := run_make_own (P := Tryz.prog) w w.heap.size 52 9 i0 _ 1 Tryz.underlying52 hi hz0 hz1 .i64 .i64 4 (by rw [hz2]; decide) (by decide) (Nat.le_refl _)
      have hmk : (Instr.makeSlice 52 (.int .i64 0) (.int .i64 4)).run Tryz.prog w = .ok (.slice (some ⟨w.heap.size, 0, none⟩) 0 4) w6 := hmk
      have hsv := run_store_bsr (w6.alloc (.cells Tryz.zeroCells144 144)) (some ⟨w.heap.size, 0, none⟩) 0 4 w6.heap.size (push_new _ _ _ rfl)
      go_upto_region 27 with fail
      clear hmk hsv
      have hlo := grown_below (v := .slice none 0 0) hgr (Nat.le_refl _) (fun k hk => by simp [Value.ownBlock] at hk)
      have hB0 : Bsr w.heap.size w6.heap.size [] (bsr0 (some ⟨w.heap.size, 0, none⟩) 0 4) (.slice (some ⟨w.heap.size, 0, none⟩) 0 4) ((w6.alloc (.cells Tryz.zeroCells144 144)).setRow w6.heap.size (bsr0 (some ⟨w.heap.size, 0, none⟩) 0 4)) := by
        refine ⟨setRow_heap _ _ _ _ _ _ (push_new _ _ _ rfl), bsr0_size _ _ _, fun c hc => ?_, ?_, ?_, hlo.size⟩
        · show (bsr0 (some ⟨w.heap.size, 0, none⟩) 0 4)[c]? = some (.slice none 0 0)
          unfold bsr0
          rw [bsr_zero, List.getElem?_toArray, List.getElem?_set_ne (by omega), Array.toList_replicate, List.getElem?_replicate, if_pos (by omega)]
        · show (bsr0 (some ⟨w.heap.size, 0, none⟩) 0 4)[256]? = _
          unfold bsr0
          rw [bsr_zero, List.getElem?_toArray, List.getElem?_set_self (by simp)]
        · refine GRow.later (w := w6) hown (fun g hg => ?_)
          have hgl : g < w6.heap.size := GRow.lt (E := StrE) (base := w.heap.size) (l := []) hown g hg
          rw [setRow_other _ _ _ _ (by omega)]
          exact Lib.alloc_old _ _ _ hgl
      have hK0 : Below w.heap.size w ((w6.alloc (.cells Tryz.zeroCells144 144)).setRow w6.heap.size (bsr0 (some ⟨w.heap.size, 0, none⟩) 0 4)) :=
        ⟨hlo.os, hlo.tape, hlo.output, by have := hlo.size; simp [World.setRow]; omega, fun k hk => by rw [setRow_other _ _ _ _ (by have := hlo.size; omega)]; exact (Lib.alloc_old _ _ _ (by have := hlo.size; omega)).trans (hlo.block k hk)⟩
      have hbl := hlo.size
      generalize (w6.alloc (.cells Tryz.zeroCells144 144)).setRow w6.heap.size (bsr0 (some ⟨w.heap.size, 0, none⟩) 0 4) = W at *
      generalize w6.heap.size = b at *
      generalize bsr0 (some ⟨w.heap.size, 0, none⟩) 0 4 = cs0 at *
      have HB0 := Lib.hid hB0; have HK0 := Lib.hid hK0; have HBL := Lib.hid hbl
      clear hB0 hK0 hown hgr hlo hbl hi hz0 hz1 hz2 i0
      go_upto_region 28 with fail
      go_loopg [12] 5 (fun f s12 wx => ∃ cs v, Below w.heap.size w wx ∧ ((f = 5 ∧ s12 = .int .i64 6 ∧ Bsr w.heap.size b ([]) cs v wx) ∨ (f = 4 ∧ s12 = .int .i64 4 ∧ Bsr w.heap.size b ([(34, (⟨#[38, 113, 117, 111, 116, 59]⟩ : ByteArray))]) cs v wx) ∨ (f = 3 ∧ s12 = .int .i64 2 ∧ Bsr w.heap.size b ([(34, (⟨#[38, 113, 117, 111, 116, 59]⟩ : ByteArray)), (62, (⟨#[38, 103, 116, 59]⟩ : ByteArray))]) cs v wx) ∨ (f = 2 ∧ s12 = .int .i64 0 ∧ Bsr w.heap.size b ([(34, (⟨#[38, 113, 117, 111, 116, 59]⟩ : ByteArray)), (62, (⟨#[38, 103, 116, 59]⟩ : ByteArray)), (60, (⟨#[38, 108, 116, 59]⟩ : ByteArray))]) cs v wx) ∨ (f = 1 ∧ s12 = .int .i64 (-2) ∧ Bsr w.heap.size b ([(34, (⟨#[38, 113, 117, 111, 116, 59]⟩ : ByteArray)), (62, (⟨#[38, 103, 116, 59]⟩ : ByteArray)), (60, (⟨#[38, 108, 116, 59]⟩ : ByteArray)), (38, (⟨#[38, 97, 109, 112, 59]⟩ : ByteArray))]) cs v wx)))
      case atStart => exact ⟨_, _, HK0.out, .inl ⟨rfl, rfl, HB0.out⟩⟩
      case round =>
        obtain ⟨cs, v, hK, ⟨rfl, rfl, hB⟩ | ⟨rfl, rfl, hB⟩ | ⟨rfl, rfl, hB⟩ | ⟨rfl, rfl, hB⟩ | ⟨rfl, rfl, hB⟩⟩ := hrel
        · have HK := Lib.hid hK; have HB := Lib.hid hB
          have k6 := cell_kept e6 hK
          have k7 := cell_kept e7 hK
          have hx0 : ∀ h, ((⟨#[34]⟩ : ByteArray)[0]'h).toNat = 34 := fun _ => rfl
          have hco : wr.cell? ⟨b, 34, none⟩ = some (.slice none 0 0) := (cellH hB.blk 34).trans (hB.rep 34 (by decide))
          have hc256 : wr.cell? ⟨b, 256, none⟩ = some v := (cellH hB.blk 256).trans hB.last
          obtain ⟨ta, tn, tc, hv⟩ := hB.row.form'
          subst hv
          have hbw := lt_some hB.blk
          have hzw := hK.size
          clear hK hB
          go_upto_region 33 with fail
          have hby : Lib.Bytes (wr.alloc (.cells #[.int .u8 34] 5)) wr.heap.size 0 (⟨#[34]⟩ : ByteArray) := fun i hi => by
            have : i = 0 := by
              have e : (⟨#[34]⟩ : ByteArray).size = 1 := rfl
              omega
            subst this
            exact (cellH (push_new _ _ _ rfl) 0)
          have hcv0 := Lib.run_convert_whole (P := Tryz.prog) (wr.alloc (.cells #[.int .u8 34] 5)) 60 5 9 Tryz.underlying60 Tryz.underlying5 Tryz.underlying9 _ _ _ hby 1
          have hcv : (convert 60 9 (.slice (some ⟨wr.heap.size, 0, none⟩) 1 1)).run Tryz.prog (wr.alloc (.cells #[.int .u8 34] 5)) = .ok (.string ⟨#[34]⟩) (wr.alloc (.cells #[.int .u8 34] 5)) := hcv0
          clear hcv0
          have hrowA : GRow StrE w.heap.size ((wr.alloc (.cells #[.int .u8 34] 5)).alloc (.cells #[.string (⟨#[34]⟩ : ByteArray)] 9)) (.slice ta tn tc) (([] : List (Nat × ByteArray)).map fun p => (⟨#[p.1.toUInt8]⟩ : ByteArray)) := (HB.out.row.on ((Below.refl _ _).alloc (Nat.le_refl _) _)).on ((Below.refl _ _).alloc (Nat.le_refl _) _)
          have hbase : w.heap.size ≤ ((wr.alloc (.cells #[.int .u8 34] 5)).alloc (.cells #[.string (⟨#[34]⟩ : ByteArray)] 9)).heap.size := by simp; omega
          have hown : (Value.slice ta tn tc).ownBlock ≠ some b := fun e => by
            obtain ⟨c, hc⟩ := HB.out.row.kind b e
            exact kinds_ne2 hc HB.out.blk (by decide)
          have hp6 : ∀ v' w6, GRow StrE w.heap.size w6 v' ((([] : List (Nat × ByteArray)).map fun p => (⟨#[p.1.toUInt8]⟩ : ByteArray)) ++ [⟨#[34]⟩]) → ((wr.alloc (.cells #[.int .u8 34] 5)).alloc (.cells #[.string (⟨#[34]⟩ : ByteArray)] 9)).grownBy w6 (Value.slice ta tn tc).ownBlock → w6.cell? ⟨b, 256, none⟩ = some (.slice ta tn tc) ∧ w6.frozen? ⟨b, 256, none⟩ = false ∧ w6.heap[b]? = wr.heap[b]? := fun v' w6 hr hg => by
            have hb6 : w6.heap[b]? = wr.heap[b]? := (hg.block b (by simp; omega) (fun e => hown e.symm)).trans ((Lib.alloc_old _ _ _ (by simp; omega)).trans (Lib.alloc_old _ _ _ hbw))
            exact ⟨(cellH (hb6.trans HB.out.blk) 256).trans HB.out.last, freeH (hb6.trans HB.out.blk) 256, hb6⟩
          have HP6 := Lib.hid hp6; have HROWA := Lib.hid hrowA
          clear hp6 hby hrowA hown
          go_upto_region 34 with (at_builtin; go_must (refine wpList_snoc_g StrE (x := (⟨#[34]⟩ : ByteArray)) rfl _ _ rfl w.heap.size (.slice ta tn tc) (([] : List (Nat × ByteArray)).map fun p => (⟨#[p.1.toUInt8]⟩ : ByteArray)) rfl HROWA.out 1 _ rfl (Blk.new' _ _ _ _ (World.size_alloc _ _).symm) (by decide) hbase ?_); intro v' w6 hrow6 hg6; obtain ⟨a', n', c', rfl⟩ := hrow6.form'; obtain ⟨c6, f6, hb6⟩ := HP6.out _ _ hrow6 hg6)
          obtain ⟨cap, w8, hcv8, hB8, hR8⟩ := conv_blk (w6.setCell ⟨b, 256, none⟩ (.slice a' n' c')) (⟨#[38, 113, 117, 111, 116, 59]⟩ : ByteArray)
          obtain ⟨hst1, hst2, cs', hst3⟩ := HB.out.step (cap := cap) (o := 34) (n := (⟨#[38, 113, 117, 111, 116, 59]⟩ : ByteArray)) (by decide) (by decide) hzw hrow6 hg6 hB8 hR8
          have hb8 : w8.heap[b]? = (w6.setCell ⟨b, 256, none⟩ (.slice a' n' c')).heap[b]? := hB8.block b (by simp [World.setCell]; omega)
          have hb7 := setH (hb6.trans HB.out.blk) 256 (.slice a' n' c')
          have co8 : w8.cell? ⟨b, 34, none⟩ = some (.slice none 0 0) := (cellH (hb8.trans hb7) 34).trans ((Array.getElem?_setIfInBounds_ne (by decide)).trans (HB.out.rep 34 (by decide)))
          have fo8 := freeH (hb8.trans hb7) 34
          have hK9 : Below w.heap.size w (w8.setCell ⟨b, 34, none⟩ (.slice (some ⟨(w6.setCell ⟨b, 256, none⟩ (.slice a' n' c')).heap.size, 0, none⟩) (⟨#[38, 113, 117, 111, 116, 59]⟩ : ByteArray).size cap)) := by
            have hlb := HB.out.lo
            have hs7 : (w6.setCell ⟨b, 256, none⟩ (.slice a' n' c')).heap.size = w6.heap.size := by simp [World.setCell]
            have hg1 := grown_below (v := .slice ta tn tc) hg6 hbase (fun g hg => HB.out.row.own g hg)
            have h2 : Below w.heap.size w w6 := HK.out.trans ((((Below.refl w.heap.size wr).alloc hzw _).alloc (by simp; omega) _).trans hg1)
            exact ((h2.setCell (by exact hlb) _).trans (hB8.mono (by rw [hs7]; exact h2.size))).setCell (by exact hlb) _
          have hs7 : (w6.setCell ⟨b, 256, none⟩ (.slice a' n' c')).heap.size = w6.heap.size := by simp [World.setCell]
          rw [hs7] at hK9 hst3
          have HK9 := Lib.hid hK9; have HST3 := Lib.hid hst3
          clear hs7
          clear hK9 hst1 hst2 hst3 hb8 hb7 hb6 c6 f6 hrow6 hg6 hB8 hR8 hcv hc256 hco
          go_wp2_with fail
          go_roundg 4
          case rel => exact ⟨_, _, HK9.out, .inr (.inl ⟨rfl, rfl, HST3.out⟩)⟩
          case measure => omega
        · have HK := Lib.hid hK; have HB := Lib.hid hB
          have k4 := cell_kept e4 hK
          have k5 := cell_kept e5 hK
          have hx0 : ∀ h, ((⟨#[62]⟩ : ByteArray)[0]'h).toNat = 62 := fun _ => rfl
          have hco : wr.cell? ⟨b, 62, none⟩ = some (.slice none 0 0) := (cellH hB.blk 62).trans (hB.rep 62 (by decide))
          have hc256 : wr.cell? ⟨b, 256, none⟩ = some v := (cellH hB.blk 256).trans hB.last
          obtain ⟨ta, tn, tc, hv⟩ := hB.row.form'
          subst hv
          have hbw := lt_some hB.blk
          have hzw := hK.size
          clear hK hB
          go_upto_region 33 with fail
          have hby : Lib.Bytes (wr.alloc (.cells #[.int .u8 62] 5)) wr.heap.size 0 (⟨#[62]⟩ : ByteArray) := fun i hi => by
            have : i = 0 := by
              have e : (⟨#[62]⟩ : ByteArray).size = 1 := rfl
              omega
            subst this
            exact (cellH (push_new _ _ _ rfl) 0)
          have hcv0 := Lib.run_convert_whole (P := Tryz.prog) (wr.alloc (.cells #[.int .u8 62] 5)) 60 5 9 Tryz.underlying60 Tryz.underlying5 Tryz.underlying9 _ _ _ hby 1
          have hcv : (convert 60 9 (.slice (some ⟨wr.heap.size, 0, none⟩) 1 1)).run Tryz.prog (wr.alloc (.cells #[.int .u8 62] 5)) = .ok (.string ⟨#[62]⟩) (wr.alloc (.cells #[.int .u8 62] 5)) := hcv0
          clear hcv0
          have hrowA : GRow StrE w.heap.size ((wr.alloc (.cells #[.int .u8 62] 5)).alloc (.cells #[.string (⟨#[62]⟩ : ByteArray)] 9)) (.slice ta tn tc) (([(34, (⟨#[38, 113, 117, 111, 116, 59]⟩ : ByteArray))] : List (Nat × ByteArray)).map fun p => (⟨#[p.1.toUInt8]⟩ : ByteArray)) := (HB.out.row.on ((Below.refl _ _).alloc (Nat.le_refl _) _)).on ((Below.refl _ _).alloc (Nat.le_refl _) _)
          have hbase : w.heap.size ≤ ((wr.alloc (.cells #[.int .u8 62] 5)).alloc (.cells #[.string (⟨#[62]⟩ : ByteArray)] 9)).heap.size := by simp; omega
          have hown : (Value.slice ta tn tc).ownBlock ≠ some b := fun e => by
            obtain ⟨c, hc⟩ := HB.out.row.kind b e
            exact kinds_ne2 hc HB.out.blk (by decide)
          have hp6 : ∀ v' w6, GRow StrE w.heap.size w6 v' ((([(34, (⟨#[38, 113, 117, 111, 116, 59]⟩ : ByteArray))] : List (Nat × ByteArray)).map fun p => (⟨#[p.1.toUInt8]⟩ : ByteArray)) ++ [⟨#[62]⟩]) → ((wr.alloc (.cells #[.int .u8 62] 5)).alloc (.cells #[.string (⟨#[62]⟩ : ByteArray)] 9)).grownBy w6 (Value.slice ta tn tc).ownBlock → w6.cell? ⟨b, 256, none⟩ = some (.slice ta tn tc) ∧ w6.frozen? ⟨b, 256, none⟩ = false ∧ w6.heap[b]? = wr.heap[b]? := fun v' w6 hr hg => by
            have hb6 : w6.heap[b]? = wr.heap[b]? := (hg.block b (by simp; omega) (fun e => hown e.symm)).trans ((Lib.alloc_old _ _ _ (by simp; omega)).trans (Lib.alloc_old _ _ _ hbw))
            exact ⟨(cellH (hb6.trans HB.out.blk) 256).trans HB.out.last, freeH (hb6.trans HB.out.blk) 256, hb6⟩
          have HP6 := Lib.hid hp6; have HROWA := Lib.hid hrowA
          clear hp6 hby hrowA hown
          go_upto_region 34 with (at_builtin; go_must (refine wpList_snoc_g StrE (x := (⟨#[62]⟩ : ByteArray)) rfl _ _ rfl w.heap.size (.slice ta tn tc) (([(34, (⟨#[38, 113, 117, 111, 116, 59]⟩ : ByteArray))] : List (Nat × ByteArray)).map fun p => (⟨#[p.1.toUInt8]⟩ : ByteArray)) rfl HROWA.out 1 _ rfl (Blk.new' _ _ _ _ (World.size_alloc _ _).symm) (by decide) hbase ?_); intro v' w6 hrow6 hg6; obtain ⟨a', n', c', rfl⟩ := hrow6.form'; obtain ⟨c6, f6, hb6⟩ := HP6.out _ _ hrow6 hg6)
          obtain ⟨cap, w8, hcv8, hB8, hR8⟩ := conv_blk (w6.setCell ⟨b, 256, none⟩ (.slice a' n' c')) (⟨#[38, 103, 116, 59]⟩ : ByteArray)
          obtain ⟨hst1, hst2, cs', hst3⟩ := HB.out.step (cap := cap) (o := 62) (n := (⟨#[38, 103, 116, 59]⟩ : ByteArray)) (by decide) (by decide) hzw hrow6 hg6 hB8 hR8
          have hb8 : w8.heap[b]? = (w6.setCell ⟨b, 256, none⟩ (.slice a' n' c')).heap[b]? := hB8.block b (by simp [World.setCell]; omega)
          have hb7 := setH (hb6.trans HB.out.blk) 256 (.slice a' n' c')
          have co8 : w8.cell? ⟨b, 62, none⟩ = some (.slice none 0 0) := (cellH (hb8.trans hb7) 62).trans ((Array.getElem?_setIfInBounds_ne (by decide)).trans (HB.out.rep 62 (by decide)))
          have fo8 := freeH (hb8.trans hb7) 62
          have hK9 : Below w.heap.size w (w8.setCell ⟨b, 62, none⟩ (.slice (some ⟨(w6.setCell ⟨b, 256, none⟩ (.slice a' n' c')).heap.size, 0, none⟩) (⟨#[38, 103, 116, 59]⟩ : ByteArray).size cap)) := by
            have hlb := HB.out.lo
            have hs7 : (w6.setCell ⟨b, 256, none⟩ (.slice a' n' c')).heap.size = w6.heap.size := by simp [World.setCell]
            have hg1 := grown_below (v := .slice ta tn tc) hg6 hbase (fun g hg => HB.out.row.own g hg)
            have h2 : Below w.heap.size w w6 := HK.out.trans ((((Below.refl w.heap.size wr).alloc hzw _).alloc (by simp; omega) _).trans hg1)
            exact ((h2.setCell (by exact hlb) _).trans (hB8.mono (by rw [hs7]; exact h2.size))).setCell (by exact hlb) _
          have hs7 : (w6.setCell ⟨b, 256, none⟩ (.slice a' n' c')).heap.size = w6.heap.size := by simp [World.setCell]
          rw [hs7] at hK9 hst3
          have HK9 := Lib.hid hK9; have HST3 := Lib.hid hst3
          clear hs7
          clear hK9 hst1 hst2 hst3 hb8 hb7 hb6 c6 f6 hrow6 hg6 hB8 hR8 hcv hc256 hco
          go_wp2_with fail
          go_roundg 3
          case rel => exact ⟨_, _, HK9.out, .inr (.inr (.inl ⟨rfl, rfl, HST3.out⟩))⟩
          case measure => omega
        · have HK := Lib.hid hK; have HB := Lib.hid hB
          have k2 := cell_kept e2 hK
          have k3 := cell_kept e3 hK
          have hx0 : ∀ h, ((⟨#[60]⟩ : ByteArray)[0]'h).toNat = 60 := fun _ => rfl
          have hco : wr.cell? ⟨b, 60, none⟩ = some (.slice none 0 0) := (cellH hB.blk 60).trans (hB.rep 60 (by decide))
          have hc256 : wr.cell? ⟨b, 256, none⟩ = some v := (cellH hB.blk 256).trans hB.last
          obtain ⟨ta, tn, tc, hv⟩ := hB.row.form'
          subst hv
          have hbw := lt_some hB.blk
          have hzw := hK.size
          clear hK hB
          go_upto_region 33 with fail
          have hby : Lib.Bytes (wr.alloc (.cells #[.int .u8 60] 5)) wr.heap.size 0 (⟨#[60]⟩ : ByteArray) := fun i hi => by
            have : i = 0 := by
              have e : (⟨#[60]⟩ : ByteArray).size = 1 := rfl
              omega
            subst this
            exact (cellH (push_new _ _ _ rfl) 0)
          have hcv0 := Lib.run_convert_whole (P := Tryz.prog) (wr.alloc (.cells #[.int .u8 60] 5)) 60 5 9 Tryz.underlying60 Tryz.underlying5 Tryz.underlying9 _ _ _ hby 1
          have hcv : (convert 60 9 (.slice (some ⟨wr.heap.size, 0, none⟩) 1 1)).run Tryz.prog (wr.alloc (.cells #[.int .u8 60] 5)) = .ok (.string ⟨#[60]⟩) (wr.alloc (.cells #[.int .u8 60] 5)) := hcv0
          clear hcv0
          have hrowA : GRow StrE w.heap.size ((wr.alloc (.cells #[.int .u8 60] 5)).alloc (.cells #[.string (⟨#[60]⟩ : ByteArray)] 9)) (.slice ta tn tc) (([(34, (⟨#[38, 113, 117, 111, 116, 59]⟩ : ByteArray)), (62, (⟨#[38, 103, 116, 59]⟩ : ByteArray))] : List (Nat × ByteArray)).map fun p => (⟨#[p.1.toUInt8]⟩ : ByteArray)) := (HB.out.row.on ((Below.refl _ _).alloc (Nat.le_refl _) _)).on ((Below.refl _ _).alloc (Nat.le_refl _) _)
          have hbase : w.heap.size ≤ ((wr.alloc (.cells #[.int .u8 60] 5)).alloc (.cells #[.string (⟨#[60]⟩ : ByteArray)] 9)).heap.size := by simp; omega
          have hown : (Value.slice ta tn tc).ownBlock ≠ some b := fun e => by
            obtain ⟨c, hc⟩ := HB.out.row.kind b e
            exact kinds_ne2 hc HB.out.blk (by decide)
          have hp6 : ∀ v' w6, GRow StrE w.heap.size w6 v' ((([(34, (⟨#[38, 113, 117, 111, 116, 59]⟩ : ByteArray)), (62, (⟨#[38, 103, 116, 59]⟩ : ByteArray))] : List (Nat × ByteArray)).map fun p => (⟨#[p.1.toUInt8]⟩ : ByteArray)) ++ [⟨#[60]⟩]) → ((wr.alloc (.cells #[.int .u8 60] 5)).alloc (.cells #[.string (⟨#[60]⟩ : ByteArray)] 9)).grownBy w6 (Value.slice ta tn tc).ownBlock → w6.cell? ⟨b, 256, none⟩ = some (.slice ta tn tc) ∧ w6.frozen? ⟨b, 256, none⟩ = false ∧ w6.heap[b]? = wr.heap[b]? := fun v' w6 hr hg => by
            have hb6 : w6.heap[b]? = wr.heap[b]? := (hg.block b (by simp; omega) (fun e => hown e.symm)).trans ((Lib.alloc_old _ _ _ (by simp; omega)).trans (Lib.alloc_old _ _ _ hbw))
            exact ⟨(cellH (hb6.trans HB.out.blk) 256).trans HB.out.last, freeH (hb6.trans HB.out.blk) 256, hb6⟩
          have HP6 := Lib.hid hp6; have HROWA := Lib.hid hrowA
          clear hp6 hby hrowA hown
          go_upto_region 34 with (at_builtin; go_must (refine wpList_snoc_g StrE (x := (⟨#[60]⟩ : ByteArray)) rfl _ _ rfl w.heap.size (.slice ta tn tc) (([(34, (⟨#[38, 113, 117, 111, 116, 59]⟩ : ByteArray)), (62, (⟨#[38, 103, 116, 59]⟩ : ByteArray))] : List (Nat × ByteArray)).map fun p => (⟨#[p.1.toUInt8]⟩ : ByteArray)) rfl HROWA.out 1 _ rfl (Blk.new' _ _ _ _ (World.size_alloc _ _).symm) (by decide) hbase ?_); intro v' w6 hrow6 hg6; obtain ⟨a', n', c', rfl⟩ := hrow6.form'; obtain ⟨c6, f6, hb6⟩ := HP6.out _ _ hrow6 hg6)
          obtain ⟨cap, w8, hcv8, hB8, hR8⟩ := conv_blk (w6.setCell ⟨b, 256, none⟩ (.slice a' n' c')) (⟨#[38, 108, 116, 59]⟩ : ByteArray)
          obtain ⟨hst1, hst2, cs', hst3⟩ := HB.out.step (cap := cap) (o := 60) (n := (⟨#[38, 108, 116, 59]⟩ : ByteArray)) (by decide) (by decide) hzw hrow6 hg6 hB8 hR8
          have hb8 : w8.heap[b]? = (w6.setCell ⟨b, 256, none⟩ (.slice a' n' c')).heap[b]? := hB8.block b (by simp [World.setCell]; omega)
          have hb7 := setH (hb6.trans HB.out.blk) 256 (.slice a' n' c')
          have co8 : w8.cell? ⟨b, 60, none⟩ = some (.slice none 0 0) := (cellH (hb8.trans hb7) 60).trans ((Array.getElem?_setIfInBounds_ne (by decide)).trans (HB.out.rep 60 (by decide)))
          have fo8 := freeH (hb8.trans hb7) 60
          have hK9 : Below w.heap.size w (w8.setCell ⟨b, 60, none⟩ (.slice (some ⟨(w6.setCell ⟨b, 256, none⟩ (.slice a' n' c')).heap.size, 0, none⟩) (⟨#[38, 108, 116, 59]⟩ : ByteArray).size cap)) := by
            have hlb := HB.out.lo
            have hs7 : (w6.setCell ⟨b, 256, none⟩ (.slice a' n' c')).heap.size = w6.heap.size := by simp [World.setCell]
            have hg1 := grown_below (v := .slice ta tn tc) hg6 hbase (fun g hg => HB.out.row.own g hg)
            have h2 : Below w.heap.size w w6 := HK.out.trans ((((Below.refl w.heap.size wr).alloc hzw _).alloc (by simp; omega) _).trans hg1)
            exact ((h2.setCell (by exact hlb) _).trans (hB8.mono (by rw [hs7]; exact h2.size))).setCell (by exact hlb) _
          have hs7 : (w6.setCell ⟨b, 256, none⟩ (.slice a' n' c')).heap.size = w6.heap.size := by simp [World.setCell]
          rw [hs7] at hK9 hst3
          have HK9 := Lib.hid hK9; have HST3 := Lib.hid hst3
          clear hs7
          clear hK9 hst1 hst2 hst3 hb8 hb7 hb6 c6 f6 hrow6 hg6 hB8 hR8 hcv hc256 hco
          go_wp2_with fail
          go_roundg 2
          case rel => exact ⟨_, _, HK9.out, .inr (.inr (.inr (.inl ⟨rfl, rfl, HST3.out⟩)))⟩
          case measure => omega
        · have HK := Lib.hid hK; have HB := Lib.hid hB
          have k0 := cell_kept e0 hK
          have k1 := cell_kept e1 hK
          have hx0 : ∀ h, ((⟨#[38]⟩ : ByteArray)[0]'h).toNat = 38 := fun _ => rfl
          have hco : wr.cell? ⟨b, 38, none⟩ = some (.slice none 0 0) := (cellH hB.blk 38).trans (hB.rep 38 (by decide))
          have hc256 : wr.cell? ⟨b, 256, none⟩ = some v := (cellH hB.blk 256).trans hB.last
          obtain ⟨ta, tn, tc, hv⟩ := hB.row.form'
          subst hv
          have hbw := lt_some hB.blk
          have hzw := hK.size
          clear hK hB
          go_upto_region 33 with fail
          have hby : Lib.Bytes (wr.alloc (.cells #[.int .u8 38] 5)) wr.heap.size 0 (⟨#[38]⟩ : ByteArray) := fun i hi => by
            have : i = 0 := by
              have e : (⟨#[38]⟩ : ByteArray).size = 1 := rfl
              omega
            subst this
            exact (cellH (push_new _ _ _ rfl) 0)
          have hcv0 := Lib.run_convert_whole (P := Tryz.prog) (wr.alloc (.cells #[.int .u8 38] 5)) 60 5 9 Tryz.underlying60 Tryz.underlying5 Tryz.underlying9 _ _ _ hby 1
          have hcv : (convert 60 9 (.slice (some ⟨wr.heap.size, 0, none⟩) 1 1)).run Tryz.prog (wr.alloc (.cells #[.int .u8 38] 5)) = .ok (.string ⟨#[38]⟩) (wr.alloc (.cells #[.int .u8 38] 5)) := hcv0
          clear hcv0
          have hrowA : GRow StrE w.heap.size ((wr.alloc (.cells #[.int .u8 38] 5)).alloc (.cells #[.string (⟨#[38]⟩ : ByteArray)] 9)) (.slice ta tn tc) (([(34, (⟨#[38, 113, 117, 111, 116, 59]⟩ : ByteArray)), (62, (⟨#[38, 103, 116, 59]⟩ : ByteArray)), (60, (⟨#[38, 108, 116, 59]⟩ : ByteArray))] : List (Nat × ByteArray)).map fun p => (⟨#[p.1.toUInt8]⟩ : ByteArray)) := (HB.out.row.on ((Below.refl _ _).alloc (Nat.le_refl _) _)).on ((Below.refl _ _).alloc (Nat.le_refl _) _)
          have hbase : w.heap.size ≤ ((wr.alloc (.cells #[.int .u8 38] 5)).alloc (.cells #[.string (⟨#[38]⟩ : ByteArray)] 9)).heap.size := by simp; omega
          have hown : (Value.slice ta tn tc).ownBlock ≠ some b := fun e => by
            obtain ⟨c, hc⟩ := HB.out.row.kind b e
            exact kinds_ne2 hc HB.out.blk (by decide)
          have hp6 : ∀ v' w6, GRow StrE w.heap.size w6 v' ((([(34, (⟨#[38, 113, 117, 111, 116, 59]⟩ : ByteArray)), (62, (⟨#[38, 103, 116, 59]⟩ : ByteArray)), (60, (⟨#[38, 108, 116, 59]⟩ : ByteArray))] : List (Nat × ByteArray)).map fun p => (⟨#[p.1.toUInt8]⟩ : ByteArray)) ++ [⟨#[38]⟩]) → ((wr.alloc (.cells #[.int .u8 38] 5)).alloc (.cells #[.string (⟨#[38]⟩ : ByteArray)] 9)).grownBy w6 (Value.slice ta tn tc).ownBlock → w6.cell? ⟨b, 256, none⟩ = some (.slice ta tn tc) ∧ w6.frozen? ⟨b, 256, none⟩ = false ∧ w6.heap[b]? = wr.heap[b]? := fun v' w6 hr hg => by
            have hb6 : w6.heap[b]? = wr.heap[b]? := (hg.block b (by simp; omega) (fun e => hown e.symm)).trans ((Lib.alloc_old _ _ _ (by simp; omega)).trans (Lib.alloc_old _ _ _ hbw))
            exact ⟨(cellH (hb6.trans HB.out.blk) 256).trans HB.out.last, freeH (hb6.trans HB.out.blk) 256, hb6⟩
          have HP6 := Lib.hid hp6; have HROWA := Lib.hid hrowA
          clear hp6 hby hrowA hown
          go_upto_region 34 with (at_builtin; go_must (refine wpList_snoc_g StrE (x := (⟨#[38]⟩ : ByteArray)) rfl _ _ rfl w.heap.size (.slice ta tn tc) (([(34, (⟨#[38, 113, 117, 111, 116, 59]⟩ : ByteArray)), (62, (⟨#[38, 103, 116, 59]⟩ : ByteArray)), (60, (⟨#[38, 108, 116, 59]⟩ : ByteArray))] : List (Nat × ByteArray)).map fun p => (⟨#[p.1.toUInt8]⟩ : ByteArray)) rfl HROWA.out 1 _ rfl (Blk.new' _ _ _ _ (World.size_alloc _ _).symm) (by decide) hbase ?_); intro v' w6 hrow6 hg6; obtain ⟨a', n', c', rfl⟩ := hrow6.form'; obtain ⟨c6, f6, hb6⟩ := HP6.out _ _ hrow6 hg6)
          obtain ⟨cap, w8, hcv8, hB8, hR8⟩ := conv_blk (w6.setCell ⟨b, 256, none⟩ (.slice a' n' c')) (⟨#[38, 97, 109, 112, 59]⟩ : ByteArray)
          obtain ⟨hst1, hst2, cs', hst3⟩ := HB.out.step (cap := cap) (o := 38) (n := (⟨#[38, 97, 109, 112, 59]⟩ : ByteArray)) (by decide) (by decide) hzw hrow6 hg6 hB8 hR8
          have hb8 : w8.heap[b]? = (w6.setCell ⟨b, 256, none⟩ (.slice a' n' c')).heap[b]? := hB8.block b (by simp [World.setCell]; omega)
          have hb7 := setH (hb6.trans HB.out.blk) 256 (.slice a' n' c')
          have co8 : w8.cell? ⟨b, 38, none⟩ = some (.slice none 0 0) := (cellH (hb8.trans hb7) 38).trans ((Array.getElem?_setIfInBounds_ne (by decide)).trans (HB.out.rep 38 (by decide)))
          have fo8 := freeH (hb8.trans hb7) 38
          have hK9 : Below w.heap.size w (w8.setCell ⟨b, 38, none⟩ (.slice (some ⟨(w6.setCell ⟨b, 256, none⟩ (.slice a' n' c')).heap.size, 0, none⟩) (⟨#[38, 97, 109, 112, 59]⟩ : ByteArray).size cap)) := by
            have hlb := HB.out.lo
            have hs7 : (w6.setCell ⟨b, 256, none⟩ (.slice a' n' c')).heap.size = w6.heap.size := by simp [World.setCell]
            have hg1 := grown_below (v := .slice ta tn tc) hg6 hbase (fun g hg => HB.out.row.own g hg)
            have h2 : Below w.heap.size w w6 := HK.out.trans ((((Below.refl w.heap.size wr).alloc hzw _).alloc (by simp; omega) _).trans hg1)
            exact ((h2.setCell (by exact hlb) _).trans (hB8.mono (by rw [hs7]; exact h2.size))).setCell (by exact hlb) _
          have hs7 : (w6.setCell ⟨b, 256, none⟩ (.slice a' n' c')).heap.size = w6.heap.size := by simp [World.setCell]
          rw [hs7] at hK9 hst3
          have HK9 := Lib.hid hK9; have HST3 := Lib.hid hst3
          clear hs7
          clear hK9 hst1 hst2 hst3 hb8 hb7 hb6 c6 f6 hrow6 hg6 hB8 hR8 hcv hc256 hco
          go_wp2_with fail
          go_roundg 1
          case rel => exact ⟨_, _, HK9.out, .inr (.inr (.inr (.inr (⟨rfl, rfl, HST3.out⟩))))⟩
          case measure => omega
        · have HK := Lib.hid hK; have HB := Lib.hid hB
          clear hK hB
          go_wp2_with fail
          go_ret
          exact ⟨b, cs, v, rfl, HBL.out, HK.out, HB.out⟩
end Go.Proofs.YtnmpbphnfiiafaaGreatDoor
