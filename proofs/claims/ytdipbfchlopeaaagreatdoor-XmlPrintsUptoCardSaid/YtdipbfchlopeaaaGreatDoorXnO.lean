/-
  Rows of like elements: made with room, and many elements put behind at once, as steps of a region that draws its order; the laws' cut.
  The laws' copies: tokens in memory of their own.
  The program's types are laid out.
-/
import Derived.Test.YtdipbfchlopeaaaGreatDoorXnK
import Derived.Laws.OwnMore
import Derived.Laws.MakeOwn
import Derived.Deep.Strs
namespace Go.Proofs.YtdipbfchlopeaaaGreatDoor
section
open Go.RowKit Go.PlainAid

theorem step_make_g {α : Type} (E : ETy α) {ops : Array Oper} {o : Oper} {a : Act} {K : Act → World → Prop} {Q : Exit → Act → World → Prop} {EE : Prop} {w : World} (hgd : o.guard = none) (l c : Operand) (ho : o.op = Op.makeSlice E.ST l c)
    (base n : Nat) (C : Int) (hl : a.eval l = .int .i64 0) (hc : a.eval c = .int .i64 C) (hC : C = (n : Int)) (hn : n ≤ 100000000) (hz : base ≤ w.heap.size)
    (h : ∀ w', GRow E base w' (.slice (some ⟨w.heap.size, 0, none⟩) 0 n) [] → w.grownBy w' none → K (a.put o.dst (.slice (some ⟨w.heap.size, 0, none⟩) 0 n)) w') : if Region.wanted o (yielded ops a.tmps) = true then Oper.wp Tryz.prog o a w K Q else EE := by
  have hw : Region.wanted o (yielded ops a.tmps) = true := by simp [Region.wanted, hgd]
  rw [if_pos hw]
  obtain ⟨i0, hi, hz0, hz1, hz2⟩ := info_parts E.info
  obtain ⟨w', hrun, r1, r2⟩ := run_make_own (P := Tryz.prog) w base E.ST E.T i0 E.z E.sz E.und hi hz0 hz1 .i64 .i64 n (by rw [hz2]; calc E.bs * n ≤ 1000 * n := Nat.mul_le_mul_right _ E.hbs
      _ ≤ 281474976710656 := by omega) (by unfold maxLen; omega) hz
  subst hC
  unfold Oper.wp
  simp [execOp, ho, hl, hc, hrun, Result.andThen]
  exact h w' r1 r2
theorem GAt.cells {α : Type} {E : ETy α} {w : World} {g off cap : Nat} {xs : List α} (h : GAt E w (.slice (some ⟨g, off, none⟩) xs.length cap) xs) (j : Nat) (u : Value) (hu : (E.cs xs)[j]? = some u) : w.cell? ⟨g, off + j, none⟩ = some u := by
  obtain ⟨a, c, e, hc⟩ := h
  injection e with e1 e2 e3
  have hj : j < xs.length * E.sz := by
    have := (List.getElem?_eq_some_iff.1 hu).1
    rw [E.cs_len] at this
    exact this
  have hsz := E.hsz
  have hq : j / E.sz < xs.length := Nat.div_lt_of_lt_mul (by rw [Nat.mul_comm]; exact hj)
  have hr : j % E.sz < E.sz := Nat.mod_lt _ hsz
  have hjj : j / E.sz * E.sz + j % E.sz = j := Nat.div_add_mod' j E.sz
  obtain ⟨g', off', e4, _, h2⟩ := hc _ hq
  rw [← e1] at e4
  injection e4 with e4
  injection e4 with e4 e5
  subst e4 e5
  have h3 := h2 _ hr
  have h4 := E.cs_at xs _ hq _ hr
  rw [hjj] at h3 h4
  rw [h3, ← h4, hu]
theorem step_more_at {α : Type} (E : ETy α) {ops : Array Oper} {o : Oper} {a : Act} {K : Act → World → Prop} {Q : Exit → Act → World → Prop} {EE : Prop} {w : World} (xs : List α) (hgd : o.guard = none) (s y : Operand)
    (ho : o.op = .call { callee := .builtin .append, args := #[s, y], argTypes := #[E.ST, E.ST] })
    (base : Nat) (v : Value) (l : List α) (hs : a.eval s = v) (hrow : GRow E base w v l) (sv : Value) (hx : a.eval y = sv) (hsv : GAt E w sv xs) (hnil : ∀ n c, sv = .slice none n c → c = 0) (hlen : l.length ≤ 100000000) (hxl : xs.length ≤ 10000000) (hz : base ≤ w.heap.size)
    (h : ∀ v' w', GRow E base w' v' (l ++ xs) → w.grownBy w' v.ownBlock → K (a.put o.dst v') w') : if Region.wanted o (yielded ops a.tmps) = true then Oper.wp Tryz.prog o a w K Q else EE := by
  have hw : Region.wanted o (yielded ops a.tmps) = true := by simp [Region.wanted, hgd]
  rw [if_pos hw]
  obtain ⟨i0, hi, hz0, hz1, hz2⟩ := info_parts E.info
  have hcsa : E.cs (l ++ xs) = E.cs l ++ E.cs xs := by unfold ETy.cs; rw [List.flatMap_append]
  obtain ⟨aa, cap, hv, hcc⟩ := id hsv
  have hone : ∀ u ∈ E.cs xs, u.oneCell' = true := fun u hu => by
    unfold ETy.cs at hu
    rw [List.mem_flatMap] at hu
    obtain ⟨x, _, hu⟩ := hu
    exact E.hone x u hu
  have hbb : (l.length + xs.length) * E.bs ≤ 140737488355328 := by
    calc (l.length + xs.length) * E.bs ≤ (l.length + xs.length) * 1000 := Nat.mul_le_mul_left _ E.hbs
      _ ≤ 140737488355328 := by omega
  cases haa : aa with
  | none =>
    subst haa
    have hxs : xs = [] := by
      cases xs with
      | nil => rfl
      | cons x xs =>
        obtain ⟨_, _, e, _⟩ := hcc 0 (by simp)
        cases e
    subst hxs
    obtain rfl := hnil _ _ hv
    subst hv
    have hrun := run_append_owned_none (P := Tryz.prog) w base E.ST o.type E.T i0 E.sz E.und hi v l.length _ hrow
    unfold Oper.wp execOp
    simp only [ho, resolve, invoke, builtin, Sem.run_bind, Sem.run_pure, Result.andThen_ok, List.map_toArray, List.map_cons, List.map_nil, hs, hx]
    rw [show (Value.slice none ([] : List α).length 0) = Value.slice none 0 0 from rfl, hrun]
    exact h v w (by rw [List.append_nil]; exact hrow) (World.grownBy.refl w _)
  | some ad =>
    subst haa
    have hsp : ∃ g off, ad = ⟨g, off, none⟩ ∨ xs = [] := by
      cases xs with
      | nil => exact ⟨0, 0, .inr rfl⟩
      | cons x xs =>
        obtain ⟨g, off, e, _⟩ := hcc 0 (by simp)
        injection e with e
        exact ⟨g, off, .inl e⟩
    obtain ⟨g, off, hsp⟩ := hsp
    subst hv
    refine wp_append_own _ s y E.ST ho base E.T i0 E.z E.sz E.bs E.und hi hz0 hz1 hz2 E.hz E.hsz v l.length _ hs hrow ad xs.length cap (E.cs xs) hx (by rw [E.cs_len]) (fun j u hu => ?_) hone (by unfold maxLen; omega) hbb hz ?_
    · rcases hsp with rfl | rfl
      · rw [Lib.add_plain]
        exact GAt.cells hsv j u hu
      · simp [ETy.cs] at hu
    · intro v' w' hown hg _
      refine h v' w' ?_ hg
      unfold GRow
      rw [hcsa, List.length_append]
      exact hown
/-- The laws' cut: the first 400 tokens. -/
theorem TisArg.take {w : World} {a : Option Addr} {n c : Nat} {l : List TkI} (h : TisArg w (.slice a n c) l) (k : Nat) : TisArg w (.slice a (min n k) c) (l.take k) := by
  obtain ⟨⟨ms, hr, hm, ht⟩, a', c', e, h1, h2, h3⟩ := h
  injection e with e1 e2 e3
  subst e1 e2 e3
  have hl : (l.take k).length = min l.length k := by rw [List.length_take, Nat.min_comm]
  refine ⟨⟨ms.take k, ?_, by rw [List.length_take, List.length_take, hm], fun j hj hj' => ?_⟩, a, c, by rw [hl], ?_⟩
  · obtain ⟨a2, c2, e, hc⟩ := hr
    injection e with e1 e2 e3
    subst e1 e3
    refine ⟨a, c, by rw [List.length_take, hm, Nat.min_comm], fun j hj => ?_⟩
    have hj2 : j < ms.length := by rw [List.length_take] at hj; omega
    obtain ⟨g, off, e, hg, hx⟩ := hc j hj2
    exact ⟨g, off, e, hg, fun i hi => by rw [List.getElem_take]; exact hx i hi⟩
  · rw [List.length_take] at hj hj'
    have := ht j (by omega) (by omega)
    rw [List.getElem_take, List.getElem_take]
    exact this
  · rw [hl]
    exact ⟨by omega, h2, fun e => h3 e⟩
set_option maxRecDepth 100000 in
set_option maxHeartbeats 2000000 in
theorem cut_laws (a : Option Addr) (n c : Nat) (w : World) (h1 : n ≤ c) :
    Calls Tryz.prog 13 #[.slice a n c] w fun e w' => e = .returned (.slice a (min n 400) c) ∧ w = w' := by
  by_cases hn : n ≤ 400
  · have hmin : min n 400 = n := by omega
    have hI : (n : Int) ≤ 400 := by omega
    have hmI : min (n : Int) 400 = (n : Int) := by omega
    have hnc : (n : Int) ≤ (c : Int) := by omega
    have HM := Lib.hid hmin
    clear hmin
    go_enter Tryz.func13, Tryz.ntmps13
    go_wp2_with fail
    go_ret
    exact ⟨by rw [HM.out]; rfl, rfl⟩
  · have hmin : min n 400 = 400 := by omega
    have hI : ¬ (n : Int) ≤ 400 := by omega
    have hmI : min (n : Int) 400 = 400 := by omega
    have hnc : (400 : Int) ≤ (c : Int) := by omega
    have HM := Lib.hid hmin
    clear hmin
    go_enter Tryz.func13, Tryz.ntmps13
    go_wp2_with fail
    go_ret
    exact ⟨by rw [HM.out]; rfl, rfl⟩
end

section
open Go.RowKit Go.PlainAid

/-- A token of a row of one's own. -/
structure TkIOwn (lo : Nat) (w : World) (m : TkMI) (t : TkI) : Prop where
  kind : m.kind = t.kind
  name : m.name = t.name
  text : m.text = t.text
  at_ : m.at_ = t.at_
  attrs : GRow AtE lo w (.slice m.aa m.an m.ac) t.attrs
/-- Tokens in memory of one's own. -/
def OwnI (lo : Nat) (w : World) (v : Value) (l : List TkI) : Prop :=
  ∃ ms : List TkMI, GRow TkEI lo w v ms ∧ ms.length = l.length ∧ ∀ j (h : j < ms.length) (h' : j < l.length), TkIOwn lo w ms[j] l[j]
theorem OwnI.nil (lo : Nat) (w : World) : OwnI lo w (.slice none 0 0) [] := ⟨[], GRow.nil _ _ _, rfl, fun j hj => absurd hj (by simp)⟩
theorem OwnI.on {lo : Nat} {w w' : World} {v : Value} {l : List TkI} (h : OwnI lo w v l) (hB : Below w.heap.size w w') : OwnI lo w' v l := by
  obtain ⟨ms, h1, h2, h3⟩ := h
  exact ⟨ms, h1.on hB, h2, fun j hj hj' => ⟨(h3 j hj hj').kind, (h3 j hj hj').name, (h3 j hj hj').text, (h3 j hj hj').at_, (h3 j hj hj').attrs.on hB⟩⟩
theorem OwnI.form {lo : Nat} {w : World} {v : Value} {l : List TkI} (h : OwnI lo w v l) : ∃ a c, v = .slice a l.length c := by
  obtain ⟨ms, h1, h2, _⟩ := h
  obtain ⟨a, c, e⟩ := h1.form
  exact ⟨a, c, by rw [e, h2]⟩
/-- One token more. -/
theorem OwnI.snoc {lo : Nat} {w w' : World} {v v' : Value} {l : List TkI} {ms : List TkMI} {m : TkMI} {t : TkI} {o : Obj} (h1 : GRow TkEI lo w v ms) (h2 : ms.length = l.length) (h3 : ∀ j (h : j < ms.length) (h' : j < l.length), TkIOwn lo w ms[j] l[j]) (hm : TkIOwn lo w m t)
    (hrow : GRow TkEI lo w' v' (ms ++ [m])) (hg : (w.alloc o).grownBy w' v.ownBlock) : OwnI lo w' v' (l ++ [t]) := by
  have hk : ∀ (m : TkMI) (t : TkI), TkIOwn lo w m t → TkIOwn lo w' m t := fun m t h => ⟨h.kind, h.name, h.text, h.at_, h.attrs.later fun g hgg => by
    have hlt := h.attrs.lt g hgg
    refine (hg.block g (by simp; omega) (fun e => ?_)).trans (Lib.alloc_old w _ g hlt)
    obtain ⟨c, hc⟩ := h.attrs.kind g hgg
    obtain ⟨c', hc'⟩ := h1.kind g e.symm
    exact kinds_ne hc hc' (by decide)⟩
  refine ⟨ms ++ [m], hrow, by simp [h2], fun j hj hj' => ?_⟩
  rw [List.length_append, List.length_singleton] at hj
  by_cases hjl : j < ms.length
  · rw [List.getElem_append_left hjl, List.getElem_append_left (by omega)]
    exact hk _ _ (h3 j hjl (by omega))
  · have e : j = ms.length := by omega
    subst e
    rw [List.getElem_append_right (Nat.le_refl _), List.getElem_append_right (by omega)]
    simp only [h2, Nat.sub_self, List.getElem_singleton]
    exact hk _ _ hm
theorem below_grown {lo : Nat} {w wc w9 : World} {o : Obj} {own : Option Nat} (h : Below lo w wc) (hlo : lo ≤ wc.heap.size) (ho : ∀ k, own = some k → lo ≤ k) (hg : (wc.alloc o).grownBy w9 own) : Below lo w w9 :=
  ⟨hg.os.trans h.os, hg.tape.trans h.tape, hg.output.trans h.output, Nat.le_trans h.size (Nat.le_trans (by simp) hg.size), fun k hk => ((hg.block k (by simp; omega) (fun e => by have := ho k e.symm; omega)).trans (Lib.alloc_old wc _ k (by omega))).trans (h.block k hk)⟩
theorem below_grow {lo : Nat} {w wc w9 : World} {own : Option Nat} (h : Below lo w wc) (hlo : lo ≤ wc.heap.size) (hg : wc.grownBy w9 own) (ho : ∀ k, own = some k → lo ≤ k) : Below lo w w9 :=
  ⟨hg.os.trans h.os, hg.tape.trans h.tape, hg.output.trans h.output, Nat.le_trans h.size hg.size, fun k hk => (hg.block k (by omega) (fun e => by have := ho k e.symm; omega)).trans (h.block k hk)⟩
theorem below_set {lo k i : Nat} {w wc : World} {u : Value} (h : Below lo w wc) (hk : lo ≤ k) : Below lo w (wc.setCell ⟨k, i, none⟩ u) :=
  ⟨h.os, h.tape, h.output, by simpa [World.setCell] using h.size, fun j hj => (Below.heap_setCell _ _ _ _ (by simp only; omega)).trans (h.block j hj)⟩
theorem gat_lt {α : Type} {E : ETy α} {w : World} {v : Value} {l : List α} (h : GAt E w v l) {g : Nat} (hg : v.ownBlock = some g) : l = [] ∨ g < w.heap.size := by
  obtain ⟨a, c, rfl, h⟩ := h
  cases l with
  | nil => exact .inl rfl
  | cons x l =>
    right
    obtain ⟨g', o, rfl, h1, _⟩ := h 0 (by simp)
    simp [Value.ownBlock] at hg
    omega
theorem GAt.above {α : Type} {E : ETy α} {w w' : World} {v : Value} {l : List α} (h : GAt E w v l) (hs : w.heap.size ≤ w'.heap.size) (hb : ∀ g, g < w.heap.size → w'.heap[g]? = w.heap[g]?) : GAt E w' v l := by
  obtain ⟨a, cap, rfl, h⟩ := h
  refine ⟨a, cap, rfl, fun j hj => ?_⟩
  obtain ⟨g, off, rfl, hg, hc⟩ := h j hj
  refine ⟨g, off, rfl, by omega, fun i hi => ?_⟩
  rw [← hc i hi]
  exact World.cell?_of_block (hb g hg)
section
set_option maxRecDepth 100000
set_option maxHeartbeats 8000000
theorem copies_any (w : World) (v : Value) (l : List TkI) (h : TisArg w v l) (hln : l.length ≤ 1048576) (hal : ∀ t ∈ l, wtL wtAt t.attrs ≤ 1048576) :
    Calls Tryz.prog 14 #[v] w fun e w' => ∃ v', e = .returned v' ∧ OwnI w.heap.size w' v' l ∧ Below w.heap.size w w' := by
  obtain ⟨⟨ms, hr, hm, ht⟩, aw, cw, ev, ho1, ho2, ho3⟩ := h
  obtain ⟨n, hn⟩ : ∃ n, l.length = n := ⟨_, rfl⟩
  obtain ⟨aa, ca, e2, hca⟩ := hr
  rw [e2] at ev
  injection ev with e3 e4 e5
  subst e2 e3 e5
  clear e4
  rw [hn] at hm hln
  have HM := Lib.hid hm; have HN := Lib.hid hn; have HT := Lib.hid ht; have HCA := Lib.hid hca; have HAL := Lib.hid hal
  rw [hm]
  obtain ⟨lo, hlo⟩ : ∃ k, w.heap.size = k := ⟨_, rfl⟩
  rw [hlo]
  have HLO := Lib.hid hlo
  have H0 := Lib.hid (show OwnI lo w (.slice none 0 0) (l.take 0) from OwnI.nil _ _)
  clear hm hn ht hca hal ho1 ho2 ho3 hlo
  go_enter Tryz.func14, Tryz.ntmps14
  go_wp2_with fail
  go_loopg [3, 8] (n + 1) (fun f s3 s8 wx => ∃ (i : Nat) (v3 : Value), v3 = s3 ∧ s8 = .int .i64 (i : Int) ∧ f + i = n + 1 ∧ i ≤ n ∧ OwnI lo wx v3 (l.take i) ∧ Below lo w wx)
  case atStart => exact ⟨0, _, rfl, rfl, rfl, Nat.zero_le _, H0.out, Below.refl _ _⟩
  case round =>
    clear H0
    obtain ⟨i, s3, rfl, rfl, hg, hi, hO, hB⟩ := hrel
    have HG := Lib.hid hg
    have hi0 : (0 : Int) ≤ i := by omega
    by_cases hlt : i < n
    · have f1 : IntKind.i64.wrap ((i : Int) + 1) = (i : Int) + 1 := IntWalk.i64_in _ (by omega)
      have hiI : (i : Int) < n := by omega
      have hil : i < l.length := by have := HN.out; omega
      have him : i < ms.length := by have := HM.out; omega
      obtain ⟨g1, o1, rfl, hg1, hc1⟩ := HCA.out i him
      have t1 := HT.out i him hil
      have hta := HAL.out l[i] (List.getElem_mem _)
      have htake : l.take (i + 1) = l.take i ++ [l[i]] := by simp
      obtain ⟨m, hm⟩ : ∃ m, ms[i] = m := ⟨_, rfl⟩
      obtain ⟨t, htt⟩ : ∃ t, l[i] = t := ⟨_, rfl⟩
      rw [hm] at hc1 t1
      rw [htt] at t1 hta htake
      obtain ⟨kd, nm, ta, tn, tc, tx, at_⟩ := m
      obtain ⟨e1, e2, e3, e4, e5, e6, _, _⟩ := t1
      simp only at e1 e2 e3 e4 e5 e6
      subst e1 e2 e3 e4
      have hB' : Below w.heap.size w wr := by rw [HLO.out]; exact hB
      have c0 : wr.cell? ⟨g1, o1 + i * 5, none⟩ = some (.int .i64 t.kind) := cell_kept (hc1 0 (by decide)) hB'
      have c1 : wr.cell? ⟨g1, o1 + i * 5 + 1, none⟩ = some (.string t.name) := cell_kept (hc1 1 (by decide)) hB'
      have c2 : wr.cell? ⟨g1, o1 + i * 5 + 2, none⟩ = some (.slice ta tn tc) := cell_kept (hc1 2 (by decide)) hB'
      have c3 : wr.cell? ⟨g1, o1 + i * 5 + 3, none⟩ = some (.string t.text) := cell_kept (hc1 3 (by decide)) hB'
      have c4 : wr.cell? ⟨g1, o1 + i * 5 + 4, none⟩ = some (.int .i64 t.at_) := cell_kept (hc1 4 (by decide)) hB'
      have hAT : GAt AtE wr (.slice ta tn tc) t.attrs := e5.on hB'
      have hatn : t.attrs.length = tn := by
        obtain ⟨a, c, e, _⟩ := hAT
        injection e with _ e _
        exact e.symm
      have hnil : ∀ n c, (Value.slice ta tn tc) = .slice none n c → c = 0 := fun n c e => by
        injection e with e7 e8 e9
        rw [← e9]; exact e6.2.2 e7
      have htn : tn ≤ 1048576 := by have := wtL_len (f := wtAt) (k := 3) (fun x => by unfold wtAt; omega) t.attrs; omega
      have hAL : Below wr.heap.size wr (wr.alloc (.cells #[.int .i64 t.kind, .string t.name, .slice ta tn tc, .string t.text, .int .i64 t.at_] 27)) := (Below.refl _ _).alloc (Nat.le_refl _) _
      have hTB : (wr.alloc (.cells #[.int .i64 t.kind, .string t.name, .slice ta tn tc, .string t.text, .int .i64 t.at_] 27)).heap[wr.heap.size]? = some (.cells #[.int .i64 t.kind, .string t.name, .slice ta tn tc, .string t.text, .int .i64 t.at_] 27 (0, 0)) := by show (wr.heap.push _)[wr.heap.size]? = _; simp
      have HB := Lib.hid hB; have HO := Lib.hid hO; have HAL2 := Lib.hid hAL; have HTB := Lib.hid hTB; have HAT := Lib.hid (hAT.on hAL); have HNIL := Lib.hid hnil; have HATN := Lib.hid hatn; have HTAKE := Lib.hid htake; have HLT := Lib.hid hlt
      have HZ := Lib.hid (show lo ≤ wr.heap.size ∧ (wr.alloc (.cells #[.int .i64 t.kind, .string t.name, .slice ta tn tc, .string t.text, .int .i64 t.at_] 27)).heap.size = wr.heap.size + 1 from ⟨by have := hB.size; have := HLO.out; omega, by simp⟩)
      clear hc1 hg1 e5 e6 hm htt hta htake hB' hAT hatn hnil hAL hTB hB hO hlt hil him hg hi
      go_upto_region 5 with fail
      obtain ⟨w0, hw0⟩ : ∃ x, wr = x := ⟨_, rfl⟩
      have HW0 := Lib.hid hw0
      clear hw0
      generalize hw1 : wr.alloc (.cells #[.int .i64 t.kind, .string t.name, .slice ta tn tc, .string t.text, .int .i64 t.at_] 27) = w1 at *
      generalize htb : wr.heap.size = tb at *
      clear c0 c1 c2 c3 c4
      have HH1 := Lib.hid hw1; have HTBZ := Lib.hid htb
      clear hw1 htb
      have f2 : IntKind.i64.wrap ((tn : Int) + 2) = (tn : Int) + 2 := IntWalk.i64_in _ (by omega)
      have hS : w1.drew.cell? ⟨tb, 2, none⟩ = some (.slice ta tn tc) := cellH HTB.out 2
      have HS := Lib.hid hS
      have hz1 : lo ≤ w1.drew.heap.size := by have h1 := HZ.out.1; have h2 := HZ.out.2; show lo ≤ w1.heap.size; omega
      clear hS
      refine wp_region_phase (S := fun w' => w'.cell? ⟨tb, 2, none⟩ = some (Value.slice ta tn tc)) 9 (by kernel_rfl) (HS.out) (fun hHeld => ?_)
      refine tkP [1, 2, 3, 4, 7, 9] 0 hHeld ?_
      refine tkP [2, 3, 4, 7, 9] 1 hHeld ?_
      refine tkP [3, 4, 7, 9] 2 hHeld ?_
      refine tkP [4, 7, 9] 3 hHeld ?_
      refine tkP [6, 7, 9] 5 hHeld ?_
      refine tkP [7, 9] 6 hHeld ?_
      refine wpAnyP_ready (rs := [4]) (by kernel_rfl) (by simp) ?_
      refine AllReadyP.cons rfl (fun K hK => ?_) AllReadyP.nil
      (refine step_make_g AtE rfl _ _ rfl lo (tn + 2) _ rfl rfl (by simp) (by omega) hz1 ?_; intro w2 hrow2 hg2; have hS2 : w2.cell? ⟨tb, 2, none⟩ = some (.slice ta tn tc) := by { have h := HS.out; have hlt : tb < w1.drew.heap.size := lt_some HTB.out; exact (World.cell?_of_block (hg2.block tb hlt (by simp))).trans h }; have hA2 : GAt AtE w2 (.slice ta tn tc) t.attrs := GAt.above HAT.out hg2.size (fun g hg => hg2.block g hg (by simp)))
      refine hK.out _ _ (hS2) (fun hHeld => ?_)
      clear hK K
      refine wpAnyP_ready (rs := [7]) (by kernel_rfl) (by simp) ?_
      refine AllReadyP.cons rfl (fun K hK => ?_) AllReadyP.nil
      (refine step_more_at AtE t.attrs rfl _ _ rfl lo _ [] rfl hrow2 _ rfl hA2 HNIL.out (by simp) (by have := HATN.out; omega) (Nat.le_trans hz1 hg2.size) ?_; intro v3 w3 hrow3 hg3; obtain ⟨a3, n3, c3, rfl⟩ := hrow3.form'; have hb3 : w3.heap[tb]? = some (.cells #[.int .i64 t.kind, .string t.name, .slice ta tn tc, .string t.text, .int .i64 t.at_] 27 (0, 0)) := by { have hlt : tb < w1.drew.heap.size := lt_some HTB.out; exact ((hg3.block tb (Nat.lt_of_lt_of_le hlt hg2.size) (fun e => Nat.ne_of_lt hlt (Option.some.inj e))).trans (hg2.block tb hlt (by simp))).trans HTB.out }; have hS3 : w3.cell? ⟨tb, 2, none⟩ = some (.slice ta tn tc) := cellH hb3 2; have hF3 : w3.frozen? ⟨tb, 2, none⟩ = false := freeH hb3 2)
      refine hK.out _ _ (hS3) (fun hHeld => ?_)
      clear hK K
      refine tkP [9] 8 hHeld ?_
      refine wpAnyP_ready (rs := [9]) (by kernel_rfl) (by simp) ?_
      refine AllReadyP.last rfl (by kernel_rfl) (fun K hK => ?_) AllReadyP.nil
      go_simp
      refine hK.out _ _ (trivial) (fun hHeld => ?_)
      clear hK K
      refine wpAnyP_done (by kernel_rfl) ?_ _
      have hvne : ∀ g, (Value.slice a3 n3 c3).ownBlock = some g → g ≠ tb := fun g hg e => by
        subst e
        obtain ⟨c, hc⟩ := hrow3.kind g hg
        exact kinds_ne hc hb3 (by decide)
      have hT9 : (w3.setCell ⟨tb, 2, none⟩ (.slice a3 n3 c3)).heap[tb]? = some (.cells #[.int .i64 t.kind, .string t.name, .slice a3 n3 c3, .string t.text, .int .i64 t.at_] 27 (0, 0)) := setH hb3 2 _
      have hA9 : GRow AtE lo (w3.setCell ⟨tb, 2, none⟩ (.slice a3 n3 c3)) (.slice a3 n3 c3) t.attrs := hrow3.later (fun g hg => Below.heap_setCell _ _ _ _ (hvne g hg))
      have hB9 : Below tb wr (w3.setCell ⟨tb, 2, none⟩ (.slice a3 n3 c3)) := by
        have h1 : Below tb wr w1 := by rw [← HH1.out, ← HTBZ.out]; exact (Below.refl _ _).alloc (Nat.le_refl _) _
        have h2 : Below tb wr w1.drew := h1.drew
        have hle : tb ≤ w1.drew.heap.size := Nat.le_of_lt (lt_some HTB.out)
        have h3 := below_grow h2 hle hg2 (fun k e => by cases e)
        have h4 := below_grow h3 (Nat.le_trans hle hg2.size) hg3 (fun k e => by have h := Option.some.inj (show some w1.drew.heap.size = some k from e); omega)
        exact below_set h4 (Nat.le_refl _)
      have hO9 : OwnI lo (w3.setCell ⟨tb, 2, none⟩ (.slice a3 n3 c3)) s3 (l.take i) := HO.out.on (by rw [HTBZ.out]; exact hB9)
      have hL9 : Below lo w (w3.setCell ⟨tb, 2, none⟩ (.slice a3 n3 c3)) := HB.out.trans (hB9.mono HZ.out.1)
      generalize w3.setCell ⟨tb, 2, none⟩ (.slice a3 n3 c3) = w9 at *
      have d0 : w9.cell? ⟨tb, 0, none⟩ = some (.int .i64 t.kind) := cellH hT9 0
      have d1 : w9.cell? ⟨tb, 1, none⟩ = some (.string t.name) := cellH hT9 1
      have d2 : w9.cell? ⟨tb, 2, none⟩ = some (.slice a3 n3 c3) := cellH hT9 2
      have d3 : w9.cell? ⟨tb, 3, none⟩ = some (.string t.text) := cellH hT9 3
      have d4 : w9.cell? ⟨tb, 4, none⟩ = some (.int .i64 t.at_) := cellH hT9 4
      obtain ⟨ms0, hr0, hm0, ht0⟩ := hO9
      have hlen0 : ms0.length ≤ 100000000 := by
        rw [hm0, List.length_take]; have := HN.out; have := HLT.out; omega
      have hz9 : lo ≤ (w9.alloc (.cells #[.int .i64 t.kind, .string t.name, .slice a3 n3 c3, .string t.text, .int .i64 t.at_] 27)).heap.size := by
        have := hL9.size; have := HLO.out; simp; omega
      have hrowB := hr0.on ((Below.refl w9.heap.size w9).alloc (Nat.le_refl _) (.cells #[.int .i64 t.kind, .string t.name, .slice a3 n3 c3, .string t.text, .int .i64 t.at_] 27))
      have HROWB := Lib.hid hrowB; have HR0 := Lib.hid hr0; have HM0 := Lib.hid hm0; have HT0 := Lib.hid ht0; have HA9 := Lib.hid hA9; have HL9 := Lib.hid hL9
      clear hrowB hr0 hm0 ht0 hA9 hL9 hT9 hvne hrow3 hg3 hb3 hS3 hF3 hrow2 hg2 hS2 hA2 hB9 hHeld
      go_wp2_with (at_builtin; go_must (refine wpList_snoc_g TkEI (x := (⟨t.kind, t.name, a3, n3, c3, t.text, t.at_⟩ : TkMI)) rfl _ _ rfl lo s3 ms0 rfl HROWB.out 1 _ rfl (Blk.new _ _ _) hlen0 hz9 ?_); intro v6 w6 hrow6 hg6; have HNEW := Lib.hid (show OwnI lo w6 v6 (l.take (i + 1)) from by { rw [HTAKE.out]; exact OwnI.snoc HR0.out HM0.out HT0.out ⟨rfl, rfl, rfl, rfl, HA9.out⟩ hrow6 hg6 }); have HBN := Lib.hid (show Below lo w w6 from below_grown HL9.out (by have := HL9.out.size; have := HLO.out; omega) HR0.out.own hg6); clear hrow6 hg6 d0 d1 d2 d3 d4)
      go_roundg (n - i)
      case rel => exact ⟨i + 1, _, rfl, by simp, by have := HG.out; have := HLT.out; omega, HLT.out, HNEW.out, HBN.out⟩
      case measure => have := HG.out; have := HLT.out; omega
    · have hiI : ¬ (i : Int) < n := by omega
      have hall : l.take i = l := List.take_of_length_le (by have := HN.out; omega)
      rw [hall] at hO
      have HO := Lib.hid hO; have HB := Lib.hid hB
      clear hO hB hall hg hi
      go_wp2_with fail
      go_ret
      exact ⟨_, rfl, HO.out, HB.out⟩
end
end

section
open Go.RowKit Go.ChangeShapes Go.WideShapes Go.Deep Go.Lib

theorem laidOut' : laidOutB Tryz.prog = true := by kernel_rfl
end
end Go.Proofs.YtdipbfchlopeaaaGreatDoor
