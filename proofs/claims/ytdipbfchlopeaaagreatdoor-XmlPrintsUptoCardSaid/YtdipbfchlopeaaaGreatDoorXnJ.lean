/-
  Does the layer do anything? It does.
  What Tokens hands back, read.
  A drawn region with a store at its end: a load may be taken first, if that store waits for it: what it reads need hold only till the store. (The kit's 'wpAnyH', its text, with a number k: S is asked as long as k has not come up.)
-/
import Derived.Test.YtdipbfchlopeaaaGreatDoorXnI
import Derived.Test.YtdipbfchlopeaaaGreatDoorXnA
import Derived.OrdersHeld
import Derived.Deep.RegionHeld
namespace Go.Proofs.YtdipbfchlopeaaaGreatDoor
section
open Go.RowKit Go.PlainAid

theorem wk1 : tokensX ⟨#[60, 97, 32, 98, 61, 39, 49, 39, 62, 120, 60, 47, 97, 62]⟩ = .ok 14 [⟨1, ⟨#[97]⟩, [(⟨#[98]⟩, ⟨#[49]⟩)], ⟨#[]⟩, 0⟩, ⟨3, ⟨#[]⟩, [], ⟨#[120]⟩, 9⟩, ⟨2, ⟨#[97]⟩, [], ⟨#[]⟩, 10⟩] := by kernel_rfl
theorem wk2 : escT ⟨#[60]⟩ = ⟨#[38, 108, 116, 59]⟩ := by kernel_rfl
theorem wk3 : takenE ⟨#[60]⟩ = 0 := by kernel_rfl
theorem tokens_any (s : ByteArray) (w : World) (hG : Gx w) : Calls Tryz.prog 18 #[.string s] w fun en w' => TokEnd s w en w' := by
  by_cases h : 262144 < s.size
  · exact tokens_long s w h
  · exact tokens_short s w (by omega) hG

set_option maxRecDepth 100000 in
set_option maxHeartbeats 4000000 in
theorem wakes_any (w : World) (hG : Gx w) :
    Calls Tryz.prog 12 #[] w fun e w' => e = .returned (.bool true) ∧ Below w.heap.size w w' := by
  have htk := tokens_any ⟨#[60, 97, 32, 98, 61, 39, 49, 39, 62, 120, 60, 47, 97, 62]⟩ w hG
  have HTK := Lib.hid htk
  have HES := Lib.hid (fun W => escape_any ⟨#[60]⟩ W (by decide))
  clear htk
  go_enter Tryz.func12, Tryz.ntmps12
  go_wp2_with fail
  refine HTK.out.mono ?_
  intro e w1 hE
  unfold TokEnd at hE
  rw [wk1] at hE
  obtain ⟨v, rfl, ⟨ms, hrow, hml, hms⟩, hB1⟩ := hE
  obtain ⟨g, cap, hv, hcells⟩ : ∃ g cap, v = .slice (some ⟨g, 0, none⟩) 3 cap ∧ ∃ (h : 0 < ms.length), w1.cell? ⟨g, 1, none⟩ = some (.string ms[0].name) ∧ w1.cell? ⟨g, 2, none⟩ = some (.slice ms[0].aa ms[0].an ms[0].ac) := by
    rcases hrow.read with ⟨e, _⟩ | ⟨g, cap, hv, _, _, _, _, hc⟩
    · rw [e] at hml; simp at hml
    · have h0 : 0 < ms.length := by rw [hml]; simp
      refine ⟨g, cap, by rw [hv, hml]; rfl, h0, ?_, ?_⟩
      · exact hc 0 h0 1 (by decide)
      · exact hc 0 h0 2 (by decide)
  obtain ⟨h0, hc1, hc2⟩ := hcells
  have hok := hms 0 h0 (by decide)
  have hnm : ms[0].name = ⟨#[97]⟩ := hok.name
  rcases hok.attrs.read with ⟨e, _⟩ | ⟨ag, acap, hav, _, _, _, _, hac⟩
  · cases e
  have ha1 : w1.cell? ⟨ag, 1, none⟩ = some (.string ⟨#[49]⟩) := hac 0 (by decide) 1 (by decide)
  rw [hnm] at hc1
  rw [hav] at hc2
  subst hv
  have HC := Lib.hid (And.intro hc1 (And.intro hc2 ha1)); have HB1 := Lib.hid hB1
  clear hrow hml hms hok hnm hav hac hc1 hc2 ha1 hB1 HTK h0
  go_wp2_with fail
  have hes := HES.out (w1.alloc (.cells #[.int .i64 0, .int .i64 0] 34))
  rw [wk2, wk3] at hes
  refine hes.mono ?_
  rintro e w2 ⟨rfl, hB2⟩
  have hA := (Below.refl w1.heap.size w1).alloc (Nat.le_refl _) (.cells #[.int .i64 0, .int .i64 0] 34)
  have hB12 : Below w1.heap.size w1 w2 := hA.trans (hB2.mono hA.size)
  have hc1 := cell_kept HC.out.1 hB12
  have hc2 := cell_kept HC.out.2.1 hB12
  have ha1 := cell_kept HC.out.2.2 hB12
  have t0 : w2.cell? ⟨w1.heap.size, 0, none⟩ = some (.int .i64 0) := cell_kept ((Blk.new w1 #[.int .i64 0, .int .i64 0] 34).cell 0) hB2
  have t1 : w2.cell? ⟨w1.heap.size, 1, none⟩ = some (.int .i64 0) := cell_kept ((Blk.new w1 #[.int .i64 0, .int .i64 0] 34).cell 1) hB2
  have HB2 := Lib.hid (HB1.out.trans (hB12.mono HB1.out.size))
  clear hes hA hB12 hB2 HC HES
  go_wp2_with fail
  go_ret
  exact ⟨rfl, HB2.out⟩
end

section
open Go.RowKit Go.PlainAid

/-- The world's shape. -/
abbrev Gl (w : World) : Prop := Gx w
/-- What is told of a file: the error, its place, the tokens. -/
def tkE (s : ByteArray) : Int := match tokensX s with | .bad e _ => e | .ok _ _ => 0
def tkA (s : ByteArray) : Int := match tokensX s with | .bad _ a => (a : Int) | .ok _ _ => 0
def tkL (s : ByteArray) : List Tk := match tokensX s with | .bad _ _ => [] | .ok _ out => out
theorem TokEnd.read {s : ByteArray} {w w' : World} {en : Ending} (h : TokEnd s w en w') : ∃ v, en = .returned (.tuple #[v, .agg #[.int .i64 (tkE s), .int .i64 (tkA s)]]) ∧ OutAt w.heap.size w' v (tkL s) ∧ Below w.heap.size w w' := by
  unfold TokEnd at h
  unfold tkE tkA tkL
  cases hx : tokensX s with
  | bad e a =>
    rw [hx] at h
    exact ⟨_, h.1, ⟨[], GRow.nil _ _ _, rfl, fun j hj => absurd hj (by simp)⟩, h.2⟩
  | ok z out =>
    rw [hx] at h
    obtain ⟨v, h1, h2, h3⟩ := h
    exact ⟨v, h1, h2, h3⟩
theorem GRow.max {α : Type} {E : ETy α} {base : Nat} {w : World} {v : Value} {l : List α} (h : GRow E base w v l) : l.length ≤ maxLen := by
  rcases h.read with ⟨rfl, _⟩ | ⟨_, _, _, _, _, h1, h2, _⟩
  · simp
  · omega
theorem OutAt.max {lo : Nat} {w : World} {v : Value} {out : List Tk} (h : OutAt lo w v out) : out.length ≤ maxLen ∧ ∀ t ∈ out, t.attrs.length ≤ maxLen := by
  obtain ⟨ms, h1, h2, h3⟩ := h
  refine ⟨by rw [← h2]; exact h1.max, fun t ht => ?_⟩
  obtain ⟨j, hj, rfl⟩ := List.getElem_of_mem ht
  exact (h3 j (by omega) hj).attrs.max
end

section
open Go.RowKit Go.PlainAid

section
variable {P : Program} {ops : Array Oper} {Q : Exit → Act → World → Prop} {md : Region.Mode} {S : World → Prop} {k : Nat}
/-- Whatever order is picked; till number k has come up, S holds behind each operation. -/
def wpAnyP (P : Program) (md : Region.Mode) (ops : Array Oper) (Q : Exit → Act → World → Prop) (S : World → Prop) (k : Nat) : Nat → Array Bool → Act → World → Prop
  | 0, listed, a, w => Region.ready md ops listed = [] ∧ Q .normal a w
  | fuel + 1, listed, a, w =>
    (Region.ready md ops listed = [] → Q .normal a w) ∧
    ∀ i ∈ Region.ready md ops listed, wpOp P ops Q i (fun a' w' => ((listed.setIfInBounds i true).getD k true = false → S w') ∧ wpAnyP P md ops Q S k fuel (listed.setIfInBounds i true) a' w') a w
theorem wpAny_of_phase : ∀ (fuel : Nat) (listed : Array Bool) (a : Act) (w : World), wpAnyP P md ops Q S k fuel listed a w → wpAny P md ops Q fuel listed a w
  | 0, _, _, _, h => h
  | fuel + 1, _, _, _, h => ⟨h.1, fun i hi => wpOp_mono (fun a' w' h' => wpAny_of_phase fuel _ a' w' h'.2) (h.2 i hi)⟩
/-- An operation may be taken first, if it yields its value wherever R holds; J tells of the states of the region where R is known. -/
theorem wpAnyP_first {i : Nat} {oi : Oper} {v : Value} {R : World → Prop} {J : Array Bool → Prop} (hik : i ≠ k) (hi : ops[i]? = some oi) (hsel : ∀ (j : Nat) (o : Oper) cs b, ops[j]? = some o → o.op ≠ .select cs b)
    (hQ : ∀ c a w, Q (.panic c) (a.put oi.dst v) w → Q (.panic c) a w)
    (hJ : ∀ listed j, J listed → j ≠ i → i ∈ Region.ready md ops listed → j ∈ Region.ready md ops listed → J (listed.setIfInBounds j true))
    (hJR : ∀ listed w, J listed → (listed.getD k true = false → S w) → R w) :
    ∀ (fuel : Nat) (listed : Array Bool) (a : Act) (w : World),
      (∀ j oj, ops[j]? = some oj → j ≠ i → listed.getD j true = false → (∀ e ∈ oj.after, Region.binds md e = true → e.on ≠ i) → oi.apart ops oj = true) →
      i ∈ Region.ready md ops listed → YieldsIf P ops R oi v a → J listed → (listed.getD k true = false → S w) →
      wpAnyP P md ops Q S k fuel (listed.setIfInBounds i true) (a.put oi.dst v) w → wpAnyP P md ops Q S k (fuel + 1) listed a w := by
  intro fuel
  induction fuel with
  | zero =>
    intro listed a w _ hr hy hL hS H
    refine ⟨fun h => (by rw [h] at hr; cases hr), fun j hj => ?_⟩
    by_cases hji : j = i
    · subst hji
      exact hy.wpOp hi (hJR _ _ hL hS) ⟨fun hk => hS (by rw [getD_set_ne true hik] at hk; exact hk), H⟩
    · have := ready_mono hj hji
      rw [H.1] at this
      cases this
  | succ fuel ih =>
    intro listed a w hfree hr hy hL hS H
    refine ⟨fun h => (by rw [h] at hr; cases hr), fun j hj => ?_⟩
    by_cases hji : j = i
    · subst hji
      exact hy.wpOp hi (hJR _ _ hL hS) ⟨fun hk => hS (by rw [getD_set_ne true hik] at hk; exact hk), H⟩
    · have h1 := H.2 j (ready_mono hj hji)
      obtain ⟨hjun, oj, hoj, hall⟩ := mem_ready.1 hj
      have hnot : ∀ e ∈ oj.after, Region.binds md e = true → e.on ≠ i := fun e he hb heq => by
        have h1 := hall e he hb
        have h0 := (mem_ready.1 hr).1
        rw [heq] at h1
        rcases Nat.lt_or_ge i listed.size with h' | h'
        · simp [h'] at h0 h1; rw [h0] at h1; cases h1
        · simp [Array.getElem?_eq_none h'] at h1
      have h2 := wpOp_putIf hoj (hfree j oj hoj hji hjun hnot) (fun cs b => hsel i oi cs b hi) (fun cs b => hsel j oj cs b hoj) hQ hy h1
      have hfree' : ∀ k ok, ops[k]? = some ok → k ≠ i → (listed.setIfInBounds j true).getD k true = false →
          (∀ e ∈ ok.after, Region.binds md e = true → e.on ≠ i) → oi.apart ops ok = true := fun k ok hk hki hun hno => by
        refine hfree k ok hk hki ?_ hno
        by_cases hjk : j = k
        · subst hjk; exact hjun
        · rw [getD_set_ne true hjk] at hun; exact hun
      have hLj := hJ listed j hL hji hr hj
      refine wpOp_mono (fun a' w' h3 => ?_) h2
      have hS' : (listed.setIfInBounds j true).getD k true = false → S w' := fun hk => h3.2.1 (by
        rw [Array.setIfInBounds_comm _ _ (Ne.symm hji), getD_set_ne true hik]
        exact hk)
      refine ⟨hS', ih (listed.setIfInBounds j true) a' w' hfree' (ready_mono hr (Ne.symm hji)) h3.1 hLj hS' ?_⟩
      rw [Array.setIfInBounds_comm _ _ hji]
      exact h3.2.2
/-- Each of the numbers C waits for number i, or for another of C. -/
def waitsB (md : Region.Mode) (ops : Array Oper) (C : List Nat) (i : Nat) : Bool := C.all fun m => match ops[m]? with
  | some o => o.after.any fun e => Region.binds md e && (e.on == i || C.contains e.on)
  | none => false
/-- A load, ahead of the store that waits for it. -/
theorem wpAnyP_take (C : List Nat) {i : Nat} {oi : Oper} {v : Value} {fuel : Nat} {listed : Array Bool} {a : Act} {w : World} (hi : ops[i]? = some oi)
    (hs : Region.noSelect ops = true) (hf : Region.free md ops listed i = true) (hr : (Region.ready md ops listed).contains i = true) (hw : (waitsB md ops C i && C.contains k && C.all (fun m => !listed.getD m true) && !C.contains i) = true)
    (hQ : ∀ c a w, Q (.panic c) (a.put oi.dst v) w → Q (.panic c) a w) (hy : YieldsIf P ops S oi v a) (hS : S w)
    (h : wpAnyP P md ops Q S k fuel (listed.setIfInBounds i true) (a.put oi.dst v) w) : wpAnyP P md ops Q S k (fuel + 1) listed a w := by
  simp only [Bool.and_eq_true, Bool.not_eq_true', List.all_eq_true] at hw
  obtain ⟨⟨⟨hw1, hck⟩, hw2⟩, hik⟩ := hw
  have hkC : k ∈ C := by simpa using hck
  refine wpAnyP_first (R := S) (J := fun l => ∀ m ∈ C, l.getD m true = false) (by rintro rfl; rw [hck] at hik; cases hik) hi (Region.noSelect_spec hs) hQ (fun l j hl hji hri hrj m hm => ?_) (fun l w hl hS => hS (hl k hkC)) fuel listed a w (Region.free_spec hi hf) (by simpa using hr) hy hw2 (fun _ => hS) h
  by_cases hjm : j = m
  · subst hjm
    exfalso
    obtain ⟨_, oj, hoj, hall⟩ := mem_ready.1 hrj
    unfold waitsB at hw1
    have h1 := List.all_eq_true.1 hw1 j hm
    rw [hoj] at h1
    simp only [Array.any_eq_true'] at h1
    obtain ⟨e, he, hb⟩ := h1
    simp only [Bool.and_eq_true, Bool.or_eq_true, beq_iff_eq] at hb
    have h2 := hall e he hb.1
    have key : ∀ n, l.getD n true = false → l.getD n false = true → False := fun n h0 h1 => by
      rcases Nat.lt_or_ge n l.size with h' | h'
      · simp [h'] at h0 h1; rw [h0] at h1; cases h1
      · simp [Array.getElem?_eq_none h'] at h1
    rcases hb.2 with hb | hb
    · rw [hb] at h2
      exact key i (mem_ready.1 hri).1 h2
    · exact key e.on (hl e.on (by simpa using hb)) h2
  · rw [getD_set_ne true hjm]
    exact hl m hm
/-- What yields in whatever world. -/
theorem wpAnyP_pure {i : Nat} {oi : Oper} {v : Value} {fuel : Nat} {listed : Array Bool} {a : Act} {w : World} (hi : ops[i]? = some oi)
    (hs : Region.noSelect ops = true) (hf : Region.free md ops listed i = true) (hr : (Region.ready md ops listed).contains i = true) (hik : (i == k) = false)
    (hQ : ∀ c a w, Q (.panic c) (a.put oi.dst v) w → Q (.panic c) a w) (hy : YieldsIf P ops (fun _ => True) oi v a) (hS : listed.getD k true = false → S w)
    (h : wpAnyP P md ops Q S k fuel (listed.setIfInBounds i true) (a.put oi.dst v) w) : wpAnyP P md ops Q S k (fuel + 1) listed a w :=
  wpAnyP_first (R := fun _ => True) (J := fun _ => True) (by simpa using hik) hi (Region.noSelect_spec hs) hQ (fun _ _ _ _ _ _ => trivial) (fun _ _ _ _ => trivial) fuel listed a w (Region.free_spec hi hf) (by simpa using hr) hy trivial hS h
def AllReadyP (P : Program) (md : Region.Mode) (ops : Array Oper) (Q : Exit → Act → World → Prop) (S : World → Prop) (k : Nat) (fuel : Nat) (listed : Array Bool) (a : Act) (w : World) (rs : List Nat) : Prop :=
  ∀ i ∈ rs, wpOp P ops Q i (fun a' w' => ((listed.setIfInBounds i true).getD k true = false → S w') ∧ wpAnyP P md ops Q S k fuel (listed.setIfInBounds i true) a' w') a w
theorem AllReadyP.nil {fuel : Nat} {listed : Array Bool} {a : Act} {w : World} : AllReadyP P md ops Q S k fuel listed a w [] := fun _ h => by cases h
theorem AllReadyP.cons {fuel : Nat} {listed : Array Bool} {a : Act} {w : World} {i : Nat} {o : Oper} {rs : List Nat} (ho : ops[i]? = some o)
    (h : ∀ K' : Act → World → Prop, Shut (∀ a w, S w → (S w → wpAnyP P md ops Q S k fuel (listed.setIfInBounds i true) a w) → K' a w) → if Region.wanted o (yielded ops a.tmps) = true then Oper.wp P o a w K' Q else K' (a.put o.dst undef) w)
    (hs : AllReadyP P md ops Q S k fuel listed a w rs) : AllReadyP P md ops Q S k fuel listed a w (i :: rs) := fun j hj => by
  rcases List.mem_cons.1 hj with rfl | hj
  · exact wpOp_step ho (fun K' hK => h K' (fun a w hS hW => hK a w ⟨fun _ => hS, hW hS⟩))
  · exact hs j hj
/-- Number k itself, and what comes behind it: S is asked no more. -/
theorem AllReadyP.last {fuel : Nat} {listed : Array Bool} {a : Act} {w : World} {i : Nat} {o : Oper} {rs : List Nat} (ho : ops[i]? = some o) (hk : (listed.setIfInBounds i true).getD k true = true)
    (h : ∀ K' : Act → World → Prop, Shut (∀ a w, True → (True → wpAnyP P md ops Q S k fuel (listed.setIfInBounds i true) a w) → K' a w) → if Region.wanted o (yielded ops a.tmps) = true then Oper.wp P o a w K' Q else K' (a.put o.dst undef) w)
    (hs : AllReadyP P md ops Q S k fuel listed a w rs) : AllReadyP P md ops Q S k fuel listed a w (i :: rs) := fun j hj => by
  rcases List.mem_cons.1 hj with rfl | hj
  · exact wpOp_step ho (fun K' hK => h K' (fun a w _ hW => hK a w ⟨fun hf => (by rw [hk] at hf; cases hf), hW trivial⟩))
  · exact hs j hj
theorem wpAnyP_ready {rs : List Nat} {fuel : Nat} {listed : Array Bool} {a : Act} {w : World} (hr : Region.ready md ops listed = rs) (hne : rs ≠ [])
    (h : AllReadyP P md ops Q S k fuel listed a w rs) : wpAnyP P md ops Q S k (fuel + 1) listed a w := ⟨fun h0 => absurd (hr ▸ h0) hne, hr ▸ h⟩
theorem no_phase {b : Bool} {p : Prop} (h : b = true) : b = false → p := fun e => by rw [h] at e; cases e
theorem wpAnyP_done {listed : Array Bool} {a : Act} {w : World} (hr : Region.ready md ops listed = []) (h : Q .normal a w) :
    ∀ fuel, wpAnyP P md ops Q S k fuel listed a w
  | 0 => ⟨hr, h⟩
  | _ + 1 => ⟨fun _ => h, by rw [hr]; simp⟩
theorem wp_region_phase {id : Nat} {a : Act} {w : World} (k : Nat) (hm : P.follows .mixedOrders = true) (hS : S w.drew)
    (h : S w.drew → wpAnyP P .any ops Q S k ops.size (Array.replicate ops.size false) a w.drew) : (Code.region id ops true).wp P Q a w :=
  wp_region_any hm (wpAny_of_phase _ _ _ _ (h hS))
end
section
variable {P : Program} {ops : Array Oper} {Q : Exit → Act → World → Prop} {md : Region.Mode} {S : World → Prop} {k : Nat}
variable {oi : Oper} {v : Value} {fuel : Nat} {listed l' : Array Bool} {a a' : Act} {w : World}
/-! The moves in short: the side conditions meet themselves. -/
theorem tkH (i : Nat) (hS : S w) (h : wpAnyH P md ops Q S fuel l' a' w) (hi : ops[i]? = some oi := by rfl)
    (hc : (Region.noSelect ops && Region.free md ops listed i && (Region.ready md ops listed).contains i) = true := by kernel_rfl)
    (hQ : ∀ c a w, Q (.panic c) (a.put oi.dst v) w → Q (.panic c) a w := by exact fun _ _ _ h => h)
    (hw : Region.wanted oi (yielded ops a.tmps) = true := by rfl)
    (hy : ∀ w, S w → (execOp a.eval oi).run P w = .ok (.value v) w := by intro w hSw; (try dsimp only at hSw); first | (go_simp; done) | (go_simp; with_reducible rfl))
    (hl : listed.setIfInBounds i true = l' := by first | (simp only [Act.put, List.setIfInBounds_toArray, List.set_cons_zero, List.set_cons_succ, List.getElem_toArray, List.getElem_cons_zero, List.getElem_cons_succ]; done) | (simp only [Act.put, List.setIfInBounds_toArray, List.set_cons_zero, List.set_cons_succ, List.getElem_toArray, List.getElem_cons_zero, List.getElem_cons_succ]; exact rfl) | exact rfl) (ha : a.put oi.dst v = a' := by first | (simp only [Act.put, List.setIfInBounds_toArray, List.set_cons_zero, List.set_cons_succ, List.getElem_toArray, List.getElem_cons_zero, List.getElem_cons_succ]; done) | (simp only [Act.put, List.setIfInBounds_toArray, List.set_cons_zero, List.set_cons_succ, List.getElem_toArray, List.getElem_cons_zero, List.getElem_cons_succ]; exact rfl) | exact rfl) : wpAnyH P md ops Q S (fuel + 1) listed a w := by
  subst hl ha
  simp only [Bool.and_eq_true] at hc
  exact wpAnyH_take hi hc.1.1 hc.1.2 hc.2 hQ (Or.inl ⟨hw, hy⟩) hS h
theorem skH (i : Nat) (hS : S w) (h : wpAnyH P md ops Q S fuel l' a' w) (hi : ops[i]? = some oi := by rfl)
    (hc : (Region.noSelect ops && Region.free md ops listed i && (Region.ready md ops listed).contains i) = true := by kernel_rfl)
    (hQ : ∀ c a w, Q (.panic c) (a.put oi.dst undef) w → Q (.panic c) a w := by exact fun _ _ _ h => h)
    (hw : Region.wanted oi (yielded ops a.tmps) = false := by rfl)
    (hl : listed.setIfInBounds i true = l' := by first | (simp only [Act.put, List.setIfInBounds_toArray, List.set_cons_zero, List.set_cons_succ, List.getElem_toArray, List.getElem_cons_zero, List.getElem_cons_succ]; done) | (simp only [Act.put, List.setIfInBounds_toArray, List.set_cons_zero, List.set_cons_succ, List.getElem_toArray, List.getElem_cons_zero, List.getElem_cons_succ]; exact rfl) | exact rfl) (ha : a.put oi.dst undef = a' := by first | (simp only [Act.put, List.setIfInBounds_toArray, List.set_cons_zero, List.set_cons_succ, List.getElem_toArray, List.getElem_cons_zero, List.getElem_cons_succ]; done) | (simp only [Act.put, List.setIfInBounds_toArray, List.set_cons_zero, List.set_cons_succ, List.getElem_toArray, List.getElem_cons_zero, List.getElem_cons_succ]; exact rfl) | exact rfl) : wpAnyH P md ops Q S (fuel + 1) listed a w := by
  subst hl ha
  simp only [Bool.and_eq_true] at hc
  exact wpAnyH_take hi hc.1.1 hc.1.2 hc.2 hQ (Or.inr ⟨hw, rfl⟩) hS h
theorem tkP (C : List Nat) (i : Nat) (hS : S w) (h : wpAnyP P md ops Q S k fuel l' a' w) (hi : ops[i]? = some oi := by rfl)
    (hc : (Region.noSelect ops && Region.free md ops listed i && (Region.ready md ops listed).contains i && (waitsB md ops C i && C.contains k && C.all (fun m => !listed.getD m true) && !C.contains i)) = true := by kernel_rfl)
    (hQ : ∀ c a w, Q (.panic c) (a.put oi.dst v) w → Q (.panic c) a w := by exact fun _ _ _ h => h)
    (hw : Region.wanted oi (yielded ops a.tmps) = true := by rfl)
    (hy : ∀ w, S w → (execOp a.eval oi).run P w = .ok (.value v) w := by intro w hSw; (try dsimp only at hSw); first | (go_simp; done) | (go_simp; with_reducible rfl))
    (hl : listed.setIfInBounds i true = l' := by first | (simp only [Act.put, List.setIfInBounds_toArray, List.set_cons_zero, List.set_cons_succ, List.getElem_toArray, List.getElem_cons_zero, List.getElem_cons_succ]; done) | (simp only [Act.put, List.setIfInBounds_toArray, List.set_cons_zero, List.set_cons_succ, List.getElem_toArray, List.getElem_cons_zero, List.getElem_cons_succ]; exact rfl) | exact rfl) (ha : a.put oi.dst v = a' := by first | (simp only [Act.put, List.setIfInBounds_toArray, List.set_cons_zero, List.set_cons_succ, List.getElem_toArray, List.getElem_cons_zero, List.getElem_cons_succ]; done) | (simp only [Act.put, List.setIfInBounds_toArray, List.set_cons_zero, List.set_cons_succ, List.getElem_toArray, List.getElem_cons_zero, List.getElem_cons_succ]; exact rfl) | exact rfl) : wpAnyP P md ops Q S k (fuel + 1) listed a w := by
  subst hl ha
  rw [Bool.and_eq_true, Bool.and_eq_true, Bool.and_eq_true] at hc
  exact wpAnyP_take C hi hc.1.1.1 hc.1.1.2 hc.1.2 hc.2 hQ (Or.inl ⟨hw, hy⟩) hS h
theorem skP (C : List Nat) (i : Nat) (hS : S w) (h : wpAnyP P md ops Q S k fuel l' a' w) (hi : ops[i]? = some oi := by rfl)
    (hc : (Region.noSelect ops && Region.free md ops listed i && (Region.ready md ops listed).contains i && (waitsB md ops C i && C.contains k && C.all (fun m => !listed.getD m true) && !C.contains i)) = true := by kernel_rfl)
    (hQ : ∀ c a w, Q (.panic c) (a.put oi.dst undef) w → Q (.panic c) a w := by exact fun _ _ _ h => h)
    (hw : Region.wanted oi (yielded ops a.tmps) = false := by rfl)
    (hl : listed.setIfInBounds i true = l' := by first | (simp only [Act.put, List.setIfInBounds_toArray, List.set_cons_zero, List.set_cons_succ, List.getElem_toArray, List.getElem_cons_zero, List.getElem_cons_succ]; done) | (simp only [Act.put, List.setIfInBounds_toArray, List.set_cons_zero, List.set_cons_succ, List.getElem_toArray, List.getElem_cons_zero, List.getElem_cons_succ]; exact rfl) | exact rfl) (ha : a.put oi.dst undef = a' := by first | (simp only [Act.put, List.setIfInBounds_toArray, List.set_cons_zero, List.set_cons_succ, List.getElem_toArray, List.getElem_cons_zero, List.getElem_cons_succ]; done) | (simp only [Act.put, List.setIfInBounds_toArray, List.set_cons_zero, List.set_cons_succ, List.getElem_toArray, List.getElem_cons_zero, List.getElem_cons_succ]; exact rfl) | exact rfl) : wpAnyP P md ops Q S k (fuel + 1) listed a w := by
  subst hl ha
  rw [Bool.and_eq_true, Bool.and_eq_true, Bool.and_eq_true] at hc
  exact wpAnyP_take C hi hc.1.1.1 hc.1.1.2 hc.1.2 hc.2 hQ (Or.inr ⟨hw, rfl⟩) hS h
theorem puP (i : Nat) (hS : listed.getD k true = false → S w) (h : wpAnyP P md ops Q S k fuel l' a' w) (hi : ops[i]? = some oi := by rfl)
    (hc : (Region.noSelect ops && Region.free md ops listed i && (Region.ready md ops listed).contains i && !(i == k)) = true := by kernel_rfl)
    (hQ : ∀ c a w, Q (.panic c) (a.put oi.dst v) w → Q (.panic c) a w := by exact fun _ _ _ h => h)
    (hw : Region.wanted oi (yielded ops a.tmps) = true := by rfl)
    (hy : ∀ w : World, True → (execOp a.eval oi).run P w = .ok (.value v) w := by intro w hSw; (try dsimp only at hSw); first | (go_simp; done) | (go_simp; with_reducible rfl))
    (hl : listed.setIfInBounds i true = l' := by first | (simp only [Act.put, List.setIfInBounds_toArray, List.set_cons_zero, List.set_cons_succ, List.getElem_toArray, List.getElem_cons_zero, List.getElem_cons_succ]; done) | (simp only [Act.put, List.setIfInBounds_toArray, List.set_cons_zero, List.set_cons_succ, List.getElem_toArray, List.getElem_cons_zero, List.getElem_cons_succ]; exact rfl) | exact rfl) (ha : a.put oi.dst v = a' := by first | (simp only [Act.put, List.setIfInBounds_toArray, List.set_cons_zero, List.set_cons_succ, List.getElem_toArray, List.getElem_cons_zero, List.getElem_cons_succ]; done) | (simp only [Act.put, List.setIfInBounds_toArray, List.set_cons_zero, List.set_cons_succ, List.getElem_toArray, List.getElem_cons_zero, List.getElem_cons_succ]; exact rfl) | exact rfl) : wpAnyP P md ops Q S k (fuel + 1) listed a w := by
  subst hl ha
  rw [Bool.and_eq_true, Bool.and_eq_true, Bool.and_eq_true, Bool.not_eq_true'] at hc
  exact wpAnyP_pure hi hc.1.1.1 hc.1.1.2 hc.1.2 hc.2 hQ (Or.inl ⟨hw, hy⟩) hS h
end
end
end Go.Proofs.YtdipbfchlopeaaaGreatDoor
