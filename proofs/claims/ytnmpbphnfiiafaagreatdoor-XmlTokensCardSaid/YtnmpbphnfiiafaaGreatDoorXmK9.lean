/-
  Escape, whole: the Replacer is built once, then it works.
-/
import Derived.Test.YtnmpbphnfiiafaaGreatDoorXmK8
namespace Go.Proofs.YtnmpbphnfiiafaaGreatDoor
open Go.RowKit Go.PlainAid

theorem Bsr.above {lo b : Nat} {L : List (Nat × ByteArray)} {cs : Array Value} {v : Value} {w w' : World} (h : Bsr lo b L cs v w) (hB : ∀ k, lo ≤ k → k < w.heap.size → w'.heap[k]? = w.heap[k]?) : Bsr lo b L cs v w' := by
  refine ⟨(hB b h.lo (lt_some h.blk)).trans h.blk, h.size, fun c hc => ?_, h.last, h.row.later (fun g hg => hB g (h.row.own g hg) (h.row.lt g hg)), h.lo⟩
  have hr := h.rep c hc
  cases ho : rplL L c with
  | none => rw [ho] at hr; exact hr
  | some r =>
    rw [ho] at hr
    obtain ⟨g, cap, h1, h2, h3⟩ := hr
    obtain ⟨ca, fz, h4, _⟩ := id h3
    exact ⟨g, cap, h1, h2, h3.later (hB g h2 (lt_some h4))⟩
/-- A Replacer that is built. -/
def RepOk (lo rp : Nat) (w : World) : Prop := ∃ b cs v, w.cell? ⟨rp, 3, none⟩ = some (.iface 145 (.pointer (some ⟨b, 0, none⟩))) ∧ Bsr lo b esc4 cs v w

set_option maxRecDepth 100000 in
set_option maxHeartbeats 2000000 in
theorem buildOnce_any (lo rp : Nat) (x y z v : Value) (w : World) (h : w.heap[rp]? = some (.cells #[x, y, z, .nilIface, v] 111 (0, 0))) (hrow : GRow StrE lo w v esc8) :
    Calls Tryz.prog 75 #[.pointer (some ⟨rp, 0, none⟩)] w fun e w' => e = .returned (.tuple #[]) ∧ ∃ b cs v', w'.heap[rp]? = some (.cells #[x, y, z, .iface 145 (.pointer (some ⟨b, 0, none⟩)), .slice none 0 0] 111 (0, 0)) ∧ Bsr w.heap.size b esc4 cs v' w' ∧ KeepX w.heap.size rp w w' := by
  rcases hrow.read with ⟨e, _⟩ | ⟨og, oc, hv, _⟩
  · cases e
  subst hv
  have h4 : w.cell? ⟨rp, 4, none⟩ = some (.slice (some ⟨og, 0, none⟩) 8 oc) := cellH h 4
  have hbu := build_any lo rp og oc w h4 hrow
  have hrp := lt_some h
  have HH := Lib.hid h
  clear h hrow h4
  go_enter Tryz.func75, Tryz.ntmps75
  go_wp2_with fail
  refine hbu.mono ?_
  rintro e w1 ⟨b, cs, v', rfl, hb, hB, hBs⟩
  have h1 := (hB.block rp hrp).trans HH.out
  have c3 : w1.cell? ⟨rp, 3, none⟩ = some .nilIface := cellH h1 3
  have c4 : w1.cell? ⟨rp, 4, none⟩ = some (.slice (some ⟨og, 0, none⟩) 8 oc) := cellH h1 4
  have f3 := freeH h1 3
  have f4 := freeH h1 4
  have HB := Lib.hid hB; have HBS := Lib.hid hBs; have H1 := Lib.hid h1
  clear hB hBs h1 hbu
  go_wp2_with fail
  first | go_end0 | skip
  refine ⟨rfl, b, cs, v', setH (setH H1.out 3 _) 4 _, HBS.out.above (fun k hk _ => ?_), (KeepX.of HB.out (Nat.le_refl _)).trans (((KeepX.refl _ _ _).setCell 3 _).setCell 4 _)⟩
  exact (Below.heap_setCell _ _ _ _ (by simp; omega)).trans (Below.heap_setCell _ _ _ _ (by simp; omega))

set_option maxRecDepth 100000 in
theorem load_done (a : Addr) (w : World) (hc : w.cell? a = some (.int .u32 0)) :
    Calls Tryz.prog 93 #[.pointer (some a)] w fun e w' => e = .returned (.bool false) ∧ w = w' := by
  have hld := run_call_load (P := Tryz.prog) Tryz.func110 (by kernel_rfl) (by kernel_rfl) (by kernel_rfl) .u32 (by kernel_rfl) (w := w) (a := a) (x := 0) hc
  go_enter Tryz.func93, Tryz.ntmps93
  go_wp2
  go_ret
  exact ⟨rfl, rfl⟩

set_option maxRecDepth 100000 in
set_option maxHeartbeats 4000000 in
theorem doSlow_any (lo rp : Nat) (v : Value) (w : World) (h : RepNew lo rp v w) (hlo : lo ≤ rp) :
    Calls Tryz.prog 94 #[.pointer (some ⟨rp, 0, none⟩), .func (.func 75) #[.pointer (some ⟨rp, 0, none⟩)] #[]] w fun e w' => e = .returned (.tuple #[]) ∧ RepOk w.heap.size rp w' ∧ KeepX w.heap.size rp w w' := by
  obtain ⟨hb, hrow⟩ := h
  have hrp := lt_some hb
  have hb1 := setH hb 1 (.int .i32 1)
  have hrow1 : GRow StrE lo (w.setCell ⟨rp, 1, none⟩ (.int .i32 1)) v esc8 := hrow.later (fun g hg => Below.heap_setCell _ _ _ _ (by
    intro e
    obtain ⟨c, hc⟩ := hrow.kind g hg
    simp only at e
    subst e
    exact kinds_ne hc hb (by decide)))
  have hbo := buildOnce_any lo rp _ _ _ v (w.setCell ⟨rp, 1, none⟩ (.int .i32 1)) hb1 hrow1
  have hld := load_done ⟨rp, 0, none⟩ (w.setCell ⟨rp, 1, none⟩ (.int .i32 1)) (cellH hb1 0)
  have hnot : ∀ (x : Bool) (w : World), (Op.unary .not (.bool x)).run Tryz.prog w = .ok (.bool (!x)) w := fun _ _ => rfl
  have hs1 : (w.setCell ⟨rp, 1, none⟩ (.int .i32 1)).heap.size = w.heap.size := by simp [World.setCell]
  rw [hs1] at hbo
  have hc1 : w.cell? ⟨rp, 1, none⟩ = some (.int .i32 0) := cellH hb 1
  have hf1 := freeH hb 1
  have HK1 := Lib.hid ((KeepX.refl w.heap.size rp w).setCell 1 (.int .i32 1))
  have HBO := Lib.hid hbo
  clear hb hb1 hrow hrow1 hbo
  go_enter_defers Tryz.func94, Tryz.ntmps94
  go_wp2_with (go_at_call 111; refine (lock_free ⟨rp, 1, none⟩ _ (by go_simp) (by go_simp)).mono ?_; rintro e w' ⟨rfl, rfl⟩)
  go_wp2_with fail
  refine hld.mono ?_
  rintro e w' ⟨rfl, rfl⟩
  go_wp2_with fail
  refine HBO.out.mono ?_
  rintro e w3 ⟨rfl, b, cs, v', hb3, hB3, hK3⟩
  go_wp2_with fail
  refine leaves_cons (f := 113) (args := #[.pointer (some ⟨rp, 0, none⟩), .bool true]) (by simp) (by simp [go_sem]) ?_
  refine (store_deferred ⟨rp, 0, none⟩ (.int .u32 0) .returning _ (cellH hb3 0) (freeH hb3 0)).mono ?_
  rintro e u' w'' ⟨rfl, rfl, rfl⟩
  have hb4 := setH (w := w3.drew) hb3 0 (.int .u32 1)
  refine leaves_cons (f := 112) (args := #[.pointer (some ⟨rp, 1, none⟩)]) (by simp [settle]) (by simp [go_sem]) ?_
  refine (unlock_deferred ⟨rp, 1, none⟩ _ _ (cellH hb4 1) (freeH hb4 1)).mono ?_
  rintro e u' w'' ⟨rfl, rfl, rfl⟩
  have hb5 := setH hb4 1 (.int .i32 0)
  show Leaves _ _ _ _ [] .returning _
  refine ⟨_, results_none rfl _ _ _, rfl, ⟨b, cs, v', cellH hb5 3, hB3.above (fun k hk _ => ?_)⟩, HK1.out.trans ((hK3.drew.setCell 0 _).setCell 1 _)⟩
  exact (Below.heap_setCell _ _ _ _ (by simp; omega)).trans (Below.heap_setCell _ _ _ _ (by simp; omega))

set_option maxRecDepth 100000 in
set_option maxHeartbeats 2000000 in
theorem onceDo_any (lo rp : Nat) (v : Value) (w : World) (h : RepNew lo rp v w) (hlo : lo ≤ rp) :
    Calls Tryz.prog 74 #[.pointer (some ⟨rp, 0, none⟩), .func (.func 75) #[.pointer (some ⟨rp, 0, none⟩)] #[]] w fun e w' => e = .returned (.tuple #[]) ∧ RepOk w.heap.size rp w' ∧ KeepX w.heap.size rp w w' := by
  have hld := load_done ⟨rp, 0, none⟩ w (cellH h.1 0)
  have HDS := Lib.hid (doSlow_any lo rp v w h hlo)
  clear h
  go_enter Tryz.func74, Tryz.ntmps74
  go_wp2_with fail
  refine hld.mono ?_
  rintro e w' ⟨rfl, rfl⟩
  go_wp2_with fail
  refine HDS.out.mono ?_
  rintro e w' ⟨rfl, hR, hK⟩
  go_wp2_with fail
  first | go_end0 | skip
  exact ⟨rfl, hR, hK⟩

set_option maxRecDepth 100000 in
set_option maxHeartbeats 2000000 in
theorem replace_any (lo rp : Nat) (v : Value) (s : ByteArray) (w : World) (h : RepNew lo rp v w) (hlo : lo ≤ rp) (hz : s.size ≤ 4000000000) :
    Calls Tryz.prog 48 #[.pointer (some ⟨rp, 0, none⟩), .string s] w fun e w' => e = .returned (.string (escB s)) ∧ KeepX w.heap.size rp w w' := by
  have HDO := Lib.hid (onceDo_any lo rp v w h hlo)
  have hmf : ∀ (fn : Fn) (first cap : Array Value) (w : World), (Instr.makeFunc fn first cap).run Tryz.prog w = .ok (.func fn first cap) w := fun _ _ _ _ => rfl
  clear h
  go_enter Tryz.func48, Tryz.ntmps48
  go_wp2_with fail
  refine HDO.out.mono ?_
  rintro e w1 ⟨rfl, ⟨b, cs, v', hc3, hBs⟩, hK⟩
  have hre := bsrReplace_any w.heap.size b cs v' s w1 hBs hz
  have HK := Lib.hid hK; have HRE := Lib.hid hre
  clear hK hBs hre
  go_wp2_with fail
  refine HRE.out.mono ?_
  rintro e w2 ⟨rfl, hB⟩
  have hK2 := HK.out.on hB (Nat.le_refl _)
  clear hB
  go_wp2_with fail
  go_ret
  exact ⟨rfl, hK2⟩

/-- What Escape hands back. -/
def escT (s : ByteArray) : ByteArray := if takenE s = 0 then escB s else ⟨#[]⟩
set_option maxRecDepth 100000 in
set_option maxHeartbeats 2000000 in
theorem escape_any (s : ByteArray) (w : World) (hz : s.size ≤ 4000000000) :
    Calls Tryz.prog 19 #[.string s] w fun e w' => e = .returned (.tuple #[.string (escT s), .int .i64 (takenE s)]) ∧ Below w.heap.size w w' := by
  have hta := taken_any s w (by omega)
  by_cases h0 : takenE s = 0
  · have hx : escT s = escB s := by unfold escT; rw [if_pos h0]
    rw [h0] at hta ⊢
    have HX := Lib.hid hx
    clear hx h0
    go_enter Tryz.func19, Tryz.ntmps19
    go_wp2_with fail
    refine hta.mono ?_
    rintro e w1 ⟨rfl, hB1⟩
    have hg : Blk (w1.alloc (.cells (StrE.cs esc8).toArray 9)) w1.heap.size (StrE.cs esc8).toArray := Blk.new _ _ _
    have hnr := newReplacer_any w1.heap.size 8 (w1.alloc (.cells (StrE.cs esc8).toArray 9)) hg
    have HNR := Lib.hid hnr
    clear hta hg hnr
    go_wp2_with fail
    refine HNR.out.mono ?_
    rintro e w2 ⟨rp, v, rfl, hlo, hR, hB2⟩
    have hre := replace_any _ rp v s w2 hR hlo hz
    have hB3 : Below w.heap.size w w2 := hB1.trans (((((Below.refl w1.heap.size w1).alloc (Nat.le_refl _) (.cells (StrE.cs esc8).toArray 9))).trans (hB2.mono (by simp))).mono hB1.size)
    have hlo1 : w.heap.size ≤ rp := by have := hB1.size; simp at hlo; omega
    have HRE := Lib.hid hre; have HB3 := Lib.hid hB3
    clear hre hB3 hR hB2 hB1 HNR
    go_wp2_with fail
    refine HRE.out.mono ?_
    rintro e w3 ⟨rfl, hK⟩
    have hB4 := HB3.out.trans (hK.below HB3.out.size hlo1)
    clear hK
    go_wp2_with fail
    refine bodyPost_ret (results_tmp2 rfl _ _ _) rfl ?_
    exact ⟨by rw [HX.out]; rfl, hB4⟩
  · have hx : escT s = ⟨#[]⟩ := by unfold escT; rw [if_neg h0]
    obtain ⟨k, hk⟩ : ∃ k, takenE s = k := ⟨_, rfl⟩
    rw [hk] at hta h0 ⊢
    have hk0 : (k == 0) = false := by simpa using h0
    have HX := Lib.hid hx
    clear hx hk
    go_enter Tryz.func19, Tryz.ntmps19
    go_wp2_with fail
    refine hta.mono ?_
    rintro e w1 ⟨rfl, hB1⟩
    go_wp2_with fail
    refine bodyPost_ret (results_tmp2 rfl _ _ _) rfl ?_
    exact ⟨by rw [HX.out]; rfl, hB1⟩
end Go.Proofs.YtnmpbphnfiiafaaGreatDoor
