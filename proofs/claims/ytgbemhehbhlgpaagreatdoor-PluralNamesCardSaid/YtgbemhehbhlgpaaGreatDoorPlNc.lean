/-
  The rule that is not there and the set that is not there: Holds, Print, Category, Categories.
-/
import Derived.Maps.AppendAt
import Derived.Test.YtgbemhehbhlgpaaGreatDoorPlNb
namespace Go.Proofs.YtgbemhehbhlgpaaGreatDoor
open Go.RowKit Go.Shelf Go.PlainAid
attribute [local go_sem] Oper.semAt_some

/-- The law of a range over a function, the temporaries behind the assignment told by what they were. -/
theorem rangeFU {F : Fence} {n : Nat} {P : Program} {α : Type} {g : Operand} {ps : Array Tmp} {assign body : Code} {Q : Exit → Act → World → Prop} {a : Act} {w : World}
    (hro : F.round = none) (h1 : 1 ≤ n) {gf : Nat} {lb : Array Value} (hg : a.eval g = .func (.func gf) #[] lb) (hFg : F.fn gf) (eg : ∀ args w, (callFunc gf args).run P w = .ok (.enter gf args) w)
    {encs : α → Array Value} {Kp : World → World → Prop} {S Sp : List α → Prop} {N : Nat} {w0 : World} (hseq : SeqStopsK F (n - 1) P gf lb encs Kp S Sp N w0)
    (hKt : ∀ {A B C : World}, Kp A B → Kp B C → Kp A C) (hKb : ∀ (W : World) (l : Nat) (o o' : Obj), w.heap.size ≤ l → W.heap[l]? = some o → o.isCells = false → o.isWalk = false → Kp W (W.putObj l o')) (hb0 : Below w0.heap.size w0 w) (hps : ∀ x, (encs x).size = ps.size)
    (I : List α → World → Prop) (Ix : Code → List α → World → Prop) (hI : OwnFrom w.heap.size I) (hIx : ∀ c, OwnFrom w.heap.size (Ix c)) (h0 : I [] w) (upd : α → Array Value → Array Value)
    (hassign : ∀ (l : Nat) (x : α) (W : World) (K : Act → World → Prop), K { tmps := upd x ((ps.zip (encs x)).foldl (fun t (p, v) => t.setIfInBounds p v) a.tmps), defers := [] } W →
      assign.wpIn (F.inRound l) (n - 1 - 1) P (Exit.then K (fun _ _ _ => False)) { tmps := (ps.zip (encs x)).foldl (fun t (p, v) => t.setIfInBounds p v) a.tmps, defers := [] } W)
    (hbody : ∀ (l : Nat) (pre : List α) (x : α) (W : World), I pre W → pre.length < N → body.wpIn (F.inRound l) (n - 1 - 1) P (ownPostK Kp I Ix (pre ++ [x]) W) { tmps := upd x ((ps.zip (encs x)).foldl (fun t (p, v) => t.setIfInBounds p v) a.tmps), defers := [] } W)
    (hdone : ∀ (D : Nat) (xs : List α) (W : World), w.heap.size ≤ D → S xs → I xs W → W.heap[D]? = some (.deferred (some [])) → Q .normal { a with defers := { target := .collected D, args := #[] } :: a.defers } W)
    (hstop : ∀ (D : Nat) (c : Code) (pre : List α) (W : World), w.heap.size ≤ D → Sp pre → Ix c pre W → W.heap[D]? = some (.deferred (some [])) → c.wpIn F n P Q { a with defers := { target := .collected D, args := #[] } :: a.defers } W) :
    (Code.rangeFunc g ps assign body).wpIn F n P Q a w :=
  wpIn_rangeFunc_ownF hro h1 hg hFg eg hseq hKt hKb hb0 hps I Ix hI hIx h0 _ hassign hbody hdone hstop
theorem boxed_on {W W' : World} {B : Nat} {t : TypeId} {v : Value} (h : Boxed W B t v) (hB : Below W.heap.size W W') : Boxed W' B t v := (hB.block B h.lt).trans h
theorem prefix_snoc {α : Type} {pre xs : List α} {x : α} (h : pre <+: xs) (hl : pre.length < xs.length) : pre ++ [x] <+: xs ↔ xs[pre.length] = x := by
  obtain ⟨r, rfl⟩ := h
  cases r with
  | nil => simp at hl
  | cons y r => simp; exact eq_comm

set_option maxRecDepth 100000 in
theorem print_nil (w : World) : Calls Tryz.prog 18 #[.pointer none] w fun e w' => e = .returned (.string ⟨#[]⟩) ∧ w = w' := by
  go_enter Tryz.func18, Tryz.ntmps18
  go_wp2_with fail
  go_ret
  exact ⟨rfl, rfl⟩
set_option maxRecDepth 100000 in
set_option maxHeartbeats 2000000 in
theorem holds_nil (neg : Bool) (ds : ByteArray) (sc : Int) (w : World) :
    Calls Tryz.prog 17 #[.pointer none, .agg #[.bool neg, .string ds, .int .i64 sc]] w fun e w' => e = .returned (.bool false) ∧ Below w.heap.size w w' := by
  have hB0 := (Below.refl w.heap.size w).alloc (Nat.le_refl _) (.cells #[.bool neg, .string ds, .int .i64 sc] 23)
  cases hr : rightB neg ds sc with
  | false =>
    have hop := operands_no neg ds sc (w.alloc (.cells #[.bool neg, .string ds, .int .i64 sc] 23)) hr
    clear hr
    go_enter Tryz.func17, Tryz.ntmps17
    go_wp2_with fail
    refine hop.mono ?_
    rintro e w1 ⟨rfl, hB1⟩
    have hB2 := hB0.trans (hB1.mono hB0.size)
    go_upto_region 2 with fail
    have hB3 := fun o => (hB2.alloc hB2.size o)
    go_quiet (fail)
    go_wp2_with fail
    go_ret
    exact ⟨rfl, bdN0 (hB3 _) nq⟩
  | true =>
    have h0 : 0 ≤ sc := (of_decide_eq_true hr).2.2.1
    obtain ⟨k, rfl⟩ : ∃ k : Nat, sc = k := ⟨sc.toNat, by omega⟩
    have hop := operands_yes neg ds k (w.alloc (.cells #[.bool neg, .string ds, .int .i64 k] 23)) hr
    rw [opsA_eq hr] at hop
    generalize digs (dval ds / 10 ^ k) = D1 at *
    generalize digs (dval ds % 10 ^ k) = D2 at *
    generalize digs (opT' ds k) = D3 at *
    generalize opW ds k = wv at *
    clear hr h0
    go_enter Tryz.func17, Tryz.ntmps17
    go_wp2_with fail
    refine hop.mono ?_
    rintro e w1 ⟨rfl, hB1⟩
    have hB2 := hB0.trans (hB1.mono hB0.size)
    go_upto_region 2 with fail
    have hB3 := fun o => (hB2.alloc hB2.size o)
    go_quiet (fail)
    go_wp2_with fail
    go_ret
    exact ⟨rfl, bdN0 (hB3 _) nq⟩
def otherB : ByteArray := ⟨#[111, 116, 104, 101, 114]⟩
set_option maxRecDepth 100000 in
set_option maxHeartbeats 2000000 in
theorem cat_nil (neg : Bool) (ds : ByteArray) (sc : Int) (w : World) :
    Calls Tryz.prog 19 #[.pointer none, .agg #[.bool neg, .string ds, .int .i64 sc]] w fun e w' => e = .returned (.string otherB) ∧ Below w.heap.size w w' := by
  have hB1 := ((Below.refl w.heap.size w).alloc (Nat.le_refl _) (.cells #[.pointer none] 30)).alloc (by simp) (.cells #[.bool neg, .string ds, .int .i64 sc] 23)
  have hz : ((w.alloc (.cells #[.pointer none] 30)).alloc (.cells #[.bool neg, .string ds, .int .i64 sc] 23)).heap.size = w.heap.size + 1 + 1 := by simp
  generalize hw1 : (w.alloc (.cells #[.pointer none] 30)).alloc (.cells #[.bool neg, .string ds, .int .i64 sc] 23) = w1 at *
  have bx := Boxed.new w1 9 (.string otherB)
  rw [hz] at bx
  have bc := bx.cell
  have hB := hB1.alloc (by rw [hz]; omega) (.cells #[.string otherB] 9)
  unfold otherB at *
  have HW1 := Lib.hid hw1
  clear hw1 bx hB1 hz
  go_enter Tryz.func19, Tryz.ntmps19
  go_wp2_with fail
  rw [HW1.out]
  refine bodyPost_ret (v := .string ⟨#[111, 116, 104, 101, 114]⟩) (by simp [results, Tryz.results19, go_sem, bc]) rfl ⟨rfl, hB⟩
end Go.Proofs.YtgbemhehbhlgpaaGreatDoor
