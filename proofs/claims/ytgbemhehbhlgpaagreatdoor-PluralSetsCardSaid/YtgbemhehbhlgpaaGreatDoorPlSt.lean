/-
  Sets of rules: every decimal has the category that the document says: the walk of PluralSets, with all that stands ahead of it.
-/
import Derived.Test.YtgbemhehbhlgpaaGreatDoorPlBackW
import Derived.Test.YtgbemhehbhlgpaaGreatDoorPlNm
import Derived.Maps.OwnSet
import Derived.Maps.Views
import Derived.Test.YtgbemhehbhlgpaaGreatDoorPlRj
import Derived.Deep.RegionHeld
import Derived.OrdersIn
import Derived.Laws.AppendOwnNone
import Derived.Deep.Strs
import Derived.ProofKit
import Derived.OpenShut
import Derived.WideShapes
namespace Go.Proofs.YtgbemhehbhlgpaaGreatDoor
section
open Go.RowKit Go.PlainAid

/-- What Parse hands back of a text that is not too long. -/
theorem parse_short (s : ByteArray) (w : World) (hs : s.size ≤ 4096) (hP : PG w) :
    Calls Tryz.prog 25 #[.string s] w fun e w' => ((∃ q : Nat, ruleP s = .bad q ∧ e = .returned (.tuple #[.pointer none, .agg #[.int .i64 250, .int .i64 (q : Int)]])) ∨
      (∃ v p rows t, e = .returned (.tuple #[v, .agg #[.int .i64 0, .int .i64 0]]) ∧ ruleP s = .ok p rows t ∧ RuleAt w' v t rows)) ∧ Below w.heap.size w w' :=
  (parse_all s w hP).mono fun e w' ⟨h, hB⟩ => ⟨by
    rcases h with ⟨er, at_, _, h1, h2⟩ | ⟨_, h⟩
    · rcases h2 with ⟨_, _, h2⟩ | ⟨rfl, _, q, rfl, h2⟩
      · omega
      · exact .inl ⟨q, h2, h1⟩
    · exact .inr h, hB⟩
/-- What Parse hands back, with its error. -/
theorem parse_tup (s : ByteArray) (w : World) (hP : PG w) :
    Calls Tryz.prog 25 #[.string s] w fun e w' => (∃ v er at_, e = .returned (.tuple #[v, .agg #[.int .i64 er, .int .i64 at_]]) ∧ ((er == 0) = false ∨ (er = 0 ∧ at_ = 0 ∧ s.size ≤ 4096 ∧ ∃ p rows t, ruleP s = .ok p rows t ∧ RuleAt w' v t rows))) ∧ Below w.heap.size w w' :=
  (parse_all s w hP).mono fun e w' ⟨h, hB⟩ => ⟨by
    rcases h with ⟨er, at_, h0, h1, _⟩ | ⟨hs, v, p, rows, t, h1, h2, h3⟩
    · exact ⟨_, _, _, h1, .inl (by simpa using h0)⟩
    · exact ⟨_, _, _, h1, .inr ⟨rfl, rfl, hs, p, rows, t, h2, h3⟩⟩, hB⟩
theorem parse_is {s : ByteArray} {p : Nat} {rows : List (List Rl)} {t : ByteArray} (h : ruleP s = .ok p rows t) (w : World) (hs : s.size ≤ 4096) (hP : PG w) :
    Calls Tryz.prog 25 #[.string s] w fun e w' => (∃ v, e = .returned (.tuple #[v, .agg #[.int .i64 0, .int .i64 0]]) ∧ RuleOn w.heap.size w' v t rows) ∧ Below w.heap.size w w' :=
  (parse_any s w hs hP).mono fun e w' ⟨h1, hB⟩ => ⟨by rw [h] at h1; exact h1, hB⟩
end

section
open Go.RowKit Go.PlainAid

abbrev Pr2 := ByteArray × ByteArray
/-- The place of a key among pairs, counted from i; -1: it is none. -/
def fdL (s : ByteArray) : List Pr2 → Nat → Int
  | [], _ => -1
  | p :: l, i => if p.1 = s then (i : Int) else fdL s l (i + 1)
/-- What is wrong with pairs, and where. -/
def faL (all : List Pr2) : List Pr2 → Nat → Int × Int
  | [], _ => (0, 0)
  | p :: l, i => if plcB p.1 < 0 ∨ plcB p.1 = 5 then (251, (i : Int)) else if 0 ≤ fdL p.1 (all.take i) 0 then (211, (i : Int)) else if 4096 < p.2.size then (3, (i : Int)) else
    match ruleP p.2 with
    | .bad _ => (250, (i : Int))
    | .ok _ _ _ => faL all l (i + 1)
/-- The rows of a category's rule. -/
def rlsOf (l : List Pr2) (s : ByteArray) : Option (List (List Rl)) :=
  match l.find? (fun p => decide (p.1 = s)) with
  | none => none
  | some p => match ruleP p.2 with
    | .bad _ => none
    | .ok _ rows _ => some rows
theorem fdL_neg {s : ByteArray} : ∀ (l : List Pr2) (i : Nat), fdL s l i < 0 ↔ ∀ p ∈ l, p.1 ≠ s
  | [], i => by simp [fdL]
  | p :: l, i => by
    unfold fdL
    by_cases h : p.1 = s
    · rw [if_pos h]
      constructor
      · intro h'; omega
      · intro h'; exact absurd h (h' p (by simp))
    · rw [if_neg h, fdL_neg l (i + 1)]
      simp [h]
theorem fdL_ge {s : ByteArray} : ∀ (l : List Pr2) (i : Nat), fdL s l i = -1 ∨ (i : Int) ≤ fdL s l i ∧ fdL s l i < (i + l.length : Nat)
  | [], i => .inl rfl
  | p :: l, i => by
    unfold fdL
    by_cases h : p.1 = s
    · rw [if_pos h]
      refine .inr ⟨Int.le_refl _, ?_⟩
      simp
      omega
    · rw [if_neg h]
      rcases fdL_ge l (i + 1) with h' | ⟨h1, h2⟩
      · exact .inl h'
      · exact .inr ⟨by omega, by simp at h2 ⊢; omega⟩
theorem fdL_find {s : ByteArray} : ∀ (l : List Pr2) (i : Nat) (k : Nat), fdL s l i = (k : Int) → i ≤ k → ∃ p, l[k - i]? = some p ∧ p.1 = s ∧ l.find? (fun p => decide (p.1 = s)) = some p
  | [], i, k, h, _ => by
    have : (-1 : Int) = (k : Int) := h
    omega
  | p :: l, i, k, h, hk => by
    unfold fdL at h
    by_cases hp : p.1 = s
    · rw [if_pos hp] at h
      have : k = i := by omega
      subst this
      exact ⟨p, by simp, hp, by simp [hp]⟩
    · rw [if_neg hp] at h
      rcases fdL_ge (s := s) l (i + 1) with h' | ⟨h1, _⟩
      · omega
      · obtain ⟨q, h2, h3, h4⟩ := fdL_find l (i + 1) k h (by omega)
        refine ⟨q, ?_, h3, by simp [hp, h4]⟩
        rw [show k - i = (k - (i + 1)) + 1 by omega]
        exact h2
/-- All pairs have rules that may be. -/
def AllOk (l : List Pr2) : Prop := ∀ p ∈ l, ∃ e rows t, ruleP p.2 = .ok e rows t ∧ p.2.size ≤ 4096
theorem rlsOf_none {l : List Pr2} {s : ByteArray} (h : fdL s l 0 < 0) : rlsOf l s = none := by
  rw [fdL_neg] at h
  unfold rlsOf
  have : l.find? (fun p => decide (p.1 = s)) = none := by
    rw [List.find?_eq_none]
    intro p hp
    simpa using h p hp
  rw [this]
theorem rlsOf_some {l : List Pr2} {s : ByteArray} (hl : AllOk l) (h : ¬ fdL s l 0 < 0) : ∃ p e rows t, p ∈ l ∧ l.find? (fun p => decide (p.1 = s)) = some p ∧ p.1 = s ∧ ruleP p.2 = .ok e rows t ∧ rlsOf l s = some rows := by
  rcases fdL_ge (s := s) l 0 with h' | ⟨h1, h2⟩
  · omega
  · obtain ⟨k, hk⟩ : ∃ k : Nat, fdL s l 0 = k := ⟨(fdL s l 0).toNat, by omega⟩
    obtain ⟨p, h3, h4, h5⟩ := fdL_find l 0 k hk (Nat.zero_le _)
    obtain ⟨e, rows, t, h6, _⟩ := hl p (List.mem_of_getElem? h3)
    refine ⟨p, e, rows, t, List.mem_of_getElem? h3, h5, h4, h6, ?_⟩
    unfold rlsOf
    rw [h5]
    simp [h6]
theorem rlsOf_snoc {l : List Pr2} {p : Pr2} {e : Nat} {rows : List (List Rl)} {t : ByteArray} (hn : fdL p.1 l 0 < 0) (h : ruleP p.2 = .ok e rows t) (s : ByteArray) : rlsOf (l ++ [p]) s = if s = p.1 then some rows else rlsOf l s := by
  rw [fdL_neg] at hn
  unfold rlsOf
  rw [List.find?_append]
  by_cases hs : s = p.1
  · subst hs
    have : l.find? (fun q => decide (q.1 = p.1)) = none := by
      rw [List.find?_eq_none]
      intro q hq
      simpa using hn q hq
    rw [this, if_pos rfl]
    simp [h]
  · rw [if_neg hs]
    have h2 : ([p] : List Pr2).find? (fun q => decide (q.1 = s)) = none := by
      rw [List.find?_eq_none]
      intro q hq
      simp at hq
      subst hq
      simpa using fun e => hs e.symm
    rw [h2, Option.or_none]
theorem AllOk.snoc {l : List Pr2} {p : Pr2} (hl : AllOk l) {e : Nat} {rows : List (List Rl)} {t : ByteArray} (h : ruleP p.2 = .ok e rows t) (hz : p.2.size ≤ 4096) : AllOk (l ++ [p]) := by
  intro q hq
  rcases List.mem_append.1 hq with h' | h'
  · exact hl q h'
  · simp at h'
    subst h'
    exact ⟨_, _, _, h, hz⟩
/-- What is wrong with the first pair. -/
theorem faL_cat {all l : List Pr2} {p : Pr2} {i : Nat} (h : plcB p.1 < 0 ∨ plcB p.1 = 5) : faL all (p :: l) i = (251, (i : Int)) := by
  unfold faL
  rw [if_pos h]
theorem faL_again {all l : List Pr2} {p : Pr2} {i : Nat} (h : ¬ (plcB p.1 < 0 ∨ plcB p.1 = 5)) (h2 : 0 ≤ fdL p.1 (all.take i) 0) : faL all (p :: l) i = (211, (i : Int)) := by
  unfold faL
  rw [if_neg h, if_pos h2]
theorem faL_long {all l : List Pr2} {p : Pr2} {i : Nat} (h : ¬ (plcB p.1 < 0 ∨ plcB p.1 = 5)) (h2 : ¬ 0 ≤ fdL p.1 (all.take i) 0) (h3 : 4096 < p.2.size) : faL all (p :: l) i = (3, (i : Int)) := by
  unfold faL
  rw [if_neg h, if_neg h2, if_pos h3]
theorem faL_bad {all l : List Pr2} {p : Pr2} {i q : Nat} (h : ¬ (plcB p.1 < 0 ∨ plcB p.1 = 5)) (h2 : ¬ 0 ≤ fdL p.1 (all.take i) 0) (h3 : ¬ 4096 < p.2.size) (h4 : ruleP p.2 = .bad q) : faL all (p :: l) i = (250, (i : Int)) := by
  unfold faL
  rw [if_neg h, if_neg h2, if_neg h3]
  simp [h4]
theorem faL_ok {all l : List Pr2} {p : Pr2} {i q : Nat} {rows : List (List Rl)} {t : ByteArray} (h : ¬ (plcB p.1 < 0 ∨ plcB p.1 = 5)) (h2 : ¬ 0 ≤ fdL p.1 (all.take i) 0) (h3 : ¬ 4096 < p.2.size) (h4 : ruleP p.2 = .ok q rows t) : faL all (p :: l) i = faL all l (i + 1) := by
  conv => lhs; unfold faL
  rw [if_neg h, if_neg h2, if_neg h3]
  simp [h4]
theorem take_snoc {α : Type} {l : List α} {i : Nat} (h : i < l.length) : l.take (i + 1) = l.take i ++ [l[i]] := by simp
/-- The category of a decimal: the first whose rule holds, among those from i on. -/
def catF (g : ByteArray → Option (List (List Rl))) (neg : Bool) (ds : ByteArray) (sc : Int) : Nat → Nat → ByteArray
  | 0, _ => ⟨#[111, 116, 104, 101, 114]⟩
  | f + 1, i => if (match g (nameB (i : Int)) with | none => false | some rows => metB neg ds sc rows) = true then nameB (i : Int) else catF g neg ds sc f (i + 1)
end

section
open Go.RowKit Go.PlainAid
open Go.Maps (Keyed string_keyed atKey_put_same atKey_put_other)

/-- How a rule's pointer reads: as its block's number. -/
def RdP (v : Value) : Option (DataW Unit × List MemPlace) :=
  match v with
  | .pointer none => some (.lit (.bool false), [])
  | .pointer (some ⟨b, 0, none⟩) => some (.lit (.int .i64 (b : Int)), [])
  | _ => none
theorem RdP_nil {v : Value} {ps : List MemPlace} (h : RdP v = some (.lit (.bool false), ps)) : v = .pointer none := by
  unfold RdP at h
  split at h
  · rfl
  · simp at h
  · cases h
theorem RdP_ptr {v : Value} {b : Nat} {ps : List MemPlace} (h : RdP v = some (.lit (.int .i64 (b : Int)), ps)) : v = .pointer (some ⟨b, 0, none⟩) := by
  unfold RdP at h
  split at h
  · simp at h
  · rename_i b'
    simp at h
    have : b' = b := by omega
    rw [this]
  · cases h
theorem rmap_later {H : Type} {P : Program} {k : TypeId} {R : Value → Option (DataW H × List MemPlace)} {w w' : World} {b n : Nat} {D : DataW H} (h : w.ownsMap P k R b n D) (hB : Below w.heap.size w w') : w'.ownsMap P k R b n D := by
  have hlt := h.lt
  obtain ⟨es, clock, hb, r⟩ := h
  exact ⟨es, clock, (hB.block b hlt).trans hb, r⟩
theorem keyStr : Keyed Tryz.prog 9 := string_keyed Tryz.underlying9
theorem zeroPtr (w : World) : (zeroValue 29).run Tryz.prog w = .ok (.pointer none) w := by kernel_rfl
/-- A map of rules: what each category's rule is. -/
def MapIs (lo : Nat) (W : World) (mb n : Nat) (g : ByteArray → Option (List (List Rl))) : Prop :=
  ∃ D : DataW Unit, W.ownsMap Tryz.prog 9 RdP mb n D ∧ ∀ s : ByteArray,
    (g s = none ∧ D.atKey (.string s.data.toList) (.lit (.bool false)) = .lit (.bool false)) ∨
    ∃ (b : Nat) (rows : List (List Rl)) (t : ByteArray), g s = some rows ∧ D.atKey (.string s.data.toList) (.lit (.bool false)) = .lit (.int .i64 (b : Int)) ∧ RuleOn lo W (.pointer (some ⟨b, 0, none⟩)) t rows
theorem MapIs.made (lo : Nat) (w : World) : MapIs lo (w.alloc (.map #[] 0)) w.heap.size 0 (fun _ => none) := ⟨.map [], World.ownsMap_made _ _ _ _, fun _ => .inl ⟨rfl, rfl⟩⟩
theorem MapIs.on {lo : Nat} {W W' : World} {mb n : Nat} {g : ByteArray → Option (List (List Rl))} (h : MapIs lo W mb n g) (hB : Below W.heap.size W W') : MapIs lo W' mb n g := by
  obtain ⟨D, h1, h2⟩ := h
  refine ⟨D, rmap_later h1 hB, fun s => ?_⟩
  rcases h2 s with h | ⟨b, rows, t, h3, h4, h5⟩
  · exact .inl h
  · exact .inr ⟨b, rows, t, h3, h4, h5.up (.of hB)⟩
theorem MapIs.lt {lo : Nat} {W : World} {mb n : Nat} {g : ByteArray → Option (List (List Rl))} (h : MapIs lo W mb n g) : mb < W.heap.size := by
  obtain ⟨D, h1, _⟩ := h
  exact h1.lt
/-- What a category's rule comes to in memory. -/
def RuleOpt (lo : Nat) (W : World) (v : Value) (o : Option (List (List Rl))) : Prop :=
  (o = none ∧ v = .pointer none) ∨ ∃ (b : Nat) (rows : List (List Rl)) (t : ByteArray), o = some rows ∧ v = .pointer (some ⟨b, 0, none⟩) ∧ RuleOn lo W v t rows
theorem RuleOpt.on {lo : Nat} {W W' : World} {v : Value} {o : Option (List (List Rl))} (h : RuleOpt lo W v o) (hB : Below W.heap.size W W') : RuleOpt lo W' v o := by
  rcases h with h | ⟨b, rows, t, h1, h2, h3⟩
  · exact .inl h
  · exact .inr ⟨b, rows, t, h1, h2, h3.up (.of hB)⟩
theorem RuleOpt.nil {lo : Nat} {W : World} {v : Value} {o : Option (List (List Rl))} (h : RuleOpt lo W v o) : (v = .pointer none ∧ o.isSome = false) ∨ (∃ b : Nat, v = .pointer (some ⟨b, 0, none⟩) ∧ o.isSome = true) := by
  rcases h with ⟨rfl, rfl⟩ | ⟨b, rows, t, rfl, rfl, _⟩
  · exact .inl ⟨rfl, rfl⟩
  · exact .inr ⟨b, rfl, rfl⟩
theorem MapIs.look {lo : Nat} {W : World} {mb n : Nat} {g : ByteArray → Option (List (List Rl))} (h : MapIs lo W mb n g) (s : ByteArray) (hs : s.size ≤ maxLen) :
    ∃ v, RuleOpt lo W v (g s) ∧ ∀ W', Below W.heap.size W W' → (Instr.lookup 65 (.map (some mb)) (.string s) false).run Tryz.prog W' = .ok v W' := by
  obtain ⟨D, h1, h2⟩ := h
  have hk := WideMaps.keyOf_string_mk (P := Tryz.prog) Tryz.underlying9 hs
  obtain ⟨v, ps, hrun, hv⟩ := h1.lookup keyStr Tryz.underlying65 (zeroPtr W) (show RdP (.pointer none) = some (.lit (.bool false), []) from rfl) hk
  refine ⟨v, ?_, fun W' hW' => ?_⟩
  · rcases h2 s with ⟨e1, e2⟩ | ⟨b, rows, t, e1, e2, e3⟩
    · rw [e2] at hv
      exact .inl ⟨e1, RdP_nil hv⟩
    · rw [e2] at hv
      obtain rfl := RdP_ptr hv
      exact .inr ⟨b, rows, t, e1, rfl, e3⟩
  · obtain ⟨v', ps', hrun', hv'⟩ := (rmap_later h1 hW').lookup keyStr Tryz.underlying65 (zeroPtr W') (show RdP (.pointer none) = some (.lit (.bool false), []) from rfl) hk
    have : v' = v := by
      rcases h2 s with ⟨e1, e2⟩ | ⟨b, rows, t, e1, e2, e3⟩
      · rw [e2] at hv hv'
        rw [RdP_nil hv, RdP_nil hv']
      · rw [e2] at hv hv'
        rw [RdP_ptr hv, RdP_ptr hv']
    rw [← this]
    exact hrun'
theorem bytes_list {a b : ByteArray} (h : a.data.toList = b.data.toList) : a = b := by
  cases a; cases b
  simp at h
  exact congrArg _ h
/-- A rule put into the map, in a region. -/
theorem step_put {ops : Array Oper} {o : Oper} {a : Act} {K : Act → World → Prop} {Q : Exit → Act → World → Prop} {EE : Prop} {w : World} (hgd : o.guard = none) (m x v : Operand) (ho : o.op = Op.mapUpdate 65 m x v)
    {lo mb n : Nat} {g : ByteArray → Option (List (List Rl))} (hM : MapIs lo w mb n g) (hlo : mb < lo) (hm : a.eval m = .map (some mb)) (s : ByteArray) (hx : a.eval x = .string s) (hs : s.size ≤ maxLen) (b : Nat) (rows : List (List Rl)) (t : ByteArray) (hv : a.eval v = .pointer (some ⟨b, 0, none⟩)) (hr : RuleOn lo w (.pointer (some ⟨b, 0, none⟩)) t rows) (hn : n ≤ 1000000000)
    (h : ∀ w', MapIs lo w' mb (n + 1) (fun q => if q = s then some rows else g q) → w.grownBy w' (some mb) → K (a.put o.dst undef) w') : if Region.wanted o (yielded ops a.tmps) = true then Oper.wp Tryz.prog o a w K Q else EE := by
  have hw : Region.wanted o (yielded ops a.tmps) = true := by simp [Region.wanted, hgd]
  rw [if_pos hw]
  obtain ⟨D, h1, h2⟩ := hM
  have hk := WideMaps.keyOf_string_mk (P := Tryz.prog) Tryz.underlying9 hs
  obtain ⟨w', hrun, r1, r2⟩ := h1.update keyStr Tryz.underlying65 (by unfold maxLen; omega) hk (show RdP (.pointer (some ⟨b, 0, none⟩)) = some (.lit (.int .i64 (b : Int)), []) from rfl)
  have hup : Up lo w w' := ⟨r2.size, fun k hk hlt => r2.block k hlt (fun e => by injection e; omega)⟩
  unfold Oper.wp
  simp [execOp, ho, hm, hx, hv, hrun, Result.andThen]
  refine h w' ⟨_, r1, fun q => ?_⟩ r2
  by_cases hq : q = s
  · subst hq
    obtain ⟨es, _, _, _, _, rfl⟩ := h1
    simp only [↓reduceIte]
    rw [atKey_put_same ⟨_, rfl⟩ (show WideAt.IsKeyLit (.string q.data.toList) from trivial)]
    exact .inr ⟨b, rows, t, rfl, rfl, hr.up hup⟩
  · simp only
    rw [if_neg hq, atKey_put_other (by intro e; injection e with e; exact hq (bytes_list e))]
    rcases h2 q with h | ⟨b', rows', t', e1, e2, e3⟩
    · exact .inl h
    · exact .inr ⟨b', rows', t', e1, e2, e3.up hup⟩
/-- A set in memory. -/
def SetAt (lo : Nat) (W : World) (v : Value) (g : ByteArray → Option (List (List Rl))) : Prop :=
  ∃ sb mb n, v = .pointer (some ⟨sb, 0, none⟩) ∧ Blk W sb #[.map (some mb)] ∧ MapIs lo W mb n g
theorem SetAt.on {lo : Nat} {W W' : World} {v : Value} {g : ByteArray → Option (List (List Rl))} (h : SetAt lo W v g) (hB : Below W.heap.size W W') : SetAt lo W' v g := by
  obtain ⟨sb, mb, n, h1, h2, h3⟩ := h
  exact ⟨sb, mb, n, h1, h2.on hB, h3.on hB⟩
/-- Does a category's rule hold? -/
def metO (neg : Bool) (ds : ByteArray) (sc : Int) (o : Option (List (List Rl))) : Bool :=
  match o with
  | none => false
  | some rows => metB neg ds sc rows
def hitG (g : ByteArray → Option (List (List Rl))) (neg : Bool) (ds : ByteArray) (sc : Int) (c : ByteArray) : Bool := metO neg ds sc (g c)
theorem hold_opt {lo : Nat} {W : World} {v : Value} {o : Option (List (List Rl))} (h : RuleOpt lo W v o) (hP : PG W) (neg : Bool) (ds : ByteArray) (sc : Int) :
    Calls Tryz.prog 17 #[v, .agg #[.bool neg, .string ds, .int .i64 sc]] W fun e w' => e = .returned (.bool (metO neg ds sc o)) ∧ Below W.heap.size W w' := by
  rcases h with ⟨rfl, rfl⟩ | ⟨b, rows, t, rfl, rfl, h⟩
  · exact holds_nil neg ds sc W
  · exact holds_any neg ds sc _ t rows W h.is hP
end

section
open Go.RowKit Go.PlainAid

def PaE : ETy Pr2 where
  T := 78
  ST := 39
  sz := 2
  bs := 32
  z := .agg #[.string ⟨#[]⟩, .string ⟨#[]⟩]
  enc := fun x => [.string x.1, .string x.2]
  hsz := by decide
  hbs := by decide
  hlen := fun _ => rfl
  hz := rfl
  info := by kernel_rfl
  und := Tryz.underlying39
  hone := fun _ => by simp [Value.oneCell']
/-- A slice that reads as pairs. -/
def PaAt (w : World) (v : Value) (l : List Pr2) : Prop :=
  ∃ a cap, v = .slice a l.length cap ∧ l.length ≤ cap ∧ cap ≤ maxLen ∧ ∀ i (hi : i < l.length), ∃ g o, a = some ⟨g, o, none⟩ ∧ g < w.heap.size ∧ w.cell? ⟨g, o + i * 2, none⟩ = some (.string l[i].1) ∧ w.cell? ⟨g, o + i * 2 + 1, none⟩ = some (.string l[i].2)
theorem PaAt.on {w w' : World} {v : Value} {l : List Pr2} (h : PaAt w v l) (hB : Below w.heap.size w w') : PaAt w' v l := by
  obtain ⟨a, cap, h1, h2, h3, h4⟩ := h
  refine ⟨a, cap, h1, h2, h3, fun i hi => ?_⟩
  obtain ⟨g, o, e1, e2, e3, e4⟩ := h4 i hi
  exact ⟨g, o, e1, Nat.lt_of_lt_of_le e2 hB.size, cell_kept e3 hB, cell_kept e4 hB⟩
theorem PaAt.take {w : World} {a : Option Addr} {n cap : Nat} {l : List Pr2} (h : PaAt w (.slice a n cap) l) (i : Nat) (hi : i ≤ l.length) : PaAt w (.slice a i cap) (l.take i) := by
  obtain ⟨a', cap', h1, h2, h3, h4⟩ := h
  injection h1 with e1 e2 e3
  subst e1 e3
  refine ⟨a, cap, by rw [List.length_take, Nat.min_eq_left hi], by rw [List.length_take]; omega, h3, fun j hj => ?_⟩
  rw [List.length_take] at hj
  obtain ⟨g, o, f1, f2, f3, f4⟩ := h4 j (by omega)
  exact ⟨g, o, f1, f2, by rw [f3]; simp, by rw [f4]; simp⟩

set_option maxRecDepth 100000 in
set_option maxHeartbeats 1000000 in
theorem rFind_any (v : Value) (l : List Pr2) (s : ByteArray) (w : World) (hv : PaAt w v l) (hl : l.length ≤ 1000000) :
    Calls Tryz.prog 23 #[v, .string s] w fun e w' => e = .returned (.int .i64 (fdL s l 0)) ∧ w = w' := by
  obtain ⟨a, cap, rfl, _, _, hc⟩ := hv
  have HC := Lib.hid hc
  obtain ⟨n, hn⟩ : ∃ n, l.length = n := ⟨_, rfl⟩
  have HN := Lib.hid hn
  rw [hn] at hl
  rw [hn]
  clear hc hn
  go_enter Tryz.func23, Tryz.ntmps23
  go_wp2_with fail
  go_loopg [5] (n + 1) (fun f s5 wx => ∃ i : Nat, s5 = .int .i64 (i : Int) ∧ f + i = n + 1 ∧ i ≤ n ∧ fdL s l 0 = fdL s (l.drop i) i ∧ w = wx)
  case atStart => exact ⟨0, rfl, rfl, Nat.zero_le _, rfl, rfl⟩
  case round =>
    obtain ⟨i, rfl, hg, hi, hp, rfl⟩ := hrel
    have HG := Lib.hid hg; have HP := Lib.hid hp
    have hi0 : (0 : Int) ≤ i := by omega
    have f1 : IntKind.i64.wrap ((i : Int) + 1) = (i : Int) + 1 := IntWalk.i64_in _ (by omega)
    by_cases hlt : i < n
    · have hil : i < l.length := by have := HN.out; omega
      obtain ⟨g, o, rfl, hgw, c0, c1⟩ := HC.out i hil
      have hst : fdL s (l.drop i) i = if l[i].1 = s then (i : Int) else fdL s (l.drop (i + 1)) (i + 1) := by
        rw [List.drop_eq_getElem_cons hil]
        rfl
      obtain ⟨p, hpp⟩ : ∃ p, l[i] = p := ⟨_, rfl⟩
      rw [hpp] at hst c0 c1
      have hq := bytes_eqb p.1 s
      have hiI : (i : Int) < n := by omega
      have HLT := Lib.hid hlt
      obtain ⟨K, V⟩ := p
      simp only at hst c0 c1 hq
      by_cases he : K = s
      · rw [decide_eq_true he] at hq
        have hres : fdL s l 0 = (i : Int) := by rw [hp, hst, if_pos he]
        have HR := Lib.hid hres
        clear hst he hres hp hg hi hpp hlt
        go_wp2_with fail
        go_ret
        exact ⟨ret_int HR.out.symm, rfl⟩
      · rw [decide_eq_false he] at hq
        have hnx : fdL s l 0 = fdL s (l.drop (i + 1)) (i + 1) := by rw [hp, hst, if_neg he]
        have HNX := Lib.hid hnx
        clear hst he hnx hp hg hi hpp hlt
        go_wp2_with fail
        go_roundg (n - i)
        case rel => exact ⟨i + 1, by simp, by have := HG.out; have := HLT.out; omega, HLT.out, HNX.out, rfl⟩
        case measure => have := HG.out; have := HLT.out; omega
    · have hiI : ¬ (i : Int) < n := by omega
      have hres : fdL s l 0 = -1 := by
        rw [hp, List.drop_eq_nil_of_le (by have := HN.out; omega)]
        rfl
      have HR := Lib.hid hres
      clear hres hp hg hi hlt
      go_wp2_with fail
      go_ret
      exact ⟨ret_int HR.out.symm, rfl⟩
end

section
open Go.RowKit Go.PlainAid

theorem fault_end {w W : World} {b : Nat} (hk : Blk W b #[.int .i64 0, .int .i64 0]) (hb : w.heap.size ≤ b) (hB : Below w.heap.size w W) (e at_ : Int) :
    ∃ W', (W.setCell ⟨b, 0, none⟩ (.int .i64 e)).setCell ⟨b, 1, none⟩ (.int .i64 at_) = W' ∧ W'.cell? ⟨b, 0, none⟩ = some (.int .i64 e) ∧ W'.cell? ⟨b, 1, none⟩ = some (.int .i64 at_) ∧ Below w.heap.size w W' := by
  have q := (hk.set 0 (.int .i64 e)).set 1 (.int .i64 at_)
  have r0 := q.cell 0
  have r1 := q.cell 1
  simp at r0 r1
  exact ⟨_, rfl, r0, r1, (hB.setCell (p := ⟨b, 0, none⟩) hb _).setCell (p := ⟨b, 1, none⟩) hb _⟩
theorem plc_cases (s : ByteArray) : plcB s = -1 ∨ (0 ≤ plcB s ∧ plcB s ≤ 5) := by
  have : ∀ f i, plcF s f i = -1 ∨ ((i : Int) ≤ plcF s f i ∧ plcF s f i < (i + f : Nat)) := by
    intro f
    induction f with
    | zero => intro i; exact .inl rfl
    | succ f ih =>
      intro i
      unfold plcF
      split
      · exact .inr ⟨Int.le_refl _, by omega⟩
      · rcases ih (i + 1) with h | ⟨h1, h2⟩
        · exact .inl h
        · exact .inr ⟨by omega, by omega⟩
  rcases this 6 0 with h | ⟨h1, h2⟩
  · exact .inl h
  · exact .inr ⟨h1, by unfold plcB; omega⟩
theorem field_rule (a : Option Addr) (n c : Nat) (t : ByteArray) (b : Int) (W : World) : (Instr.field 51 (.agg #[.slice a n c, .string t, .int .i64 b]) 2).run Tryz.prog W = .ok (.int .i64 b) W := by simp [Instr.field, asAgg, go_sem]
theorem fault_ret {a b c d : Int} (h : (a, b) = (c, d)) : Ending.returned (.agg #[.int .i64 a, .int .i64 b]) = .returned (.agg #[.int .i64 c, .int .i64 d]) := by
  injection h with h1 h2
  rw [h1, h2]

set_option maxRecDepth 100000 in
set_option maxHeartbeats 4000000 in
theorem rFault_any (v : Value) (l : List Pr2) (w : World) (hv : PaAt w v l) (hl : l.length ≤ 1000000) :
    Calls Tryz.prog 21 #[v] w fun e w' => e = .returned (.agg #[.int .i64 (faL l l 0).1, .int .i64 (faL l l 0).2]) ∧ Below w.heap.size w w' := by
  have hA1 := (Below.refl w.heap.size w).alloc (Nat.le_refl _) (.cells #[.int .i64 0, .int .i64 0] 42)
  have kr := Blk.new w #[.int .i64 0, .int .i64 0] 42
  generalize hw1 : w.alloc (.cells #[.int .i64 0, .int .i64 0] 42) = w1 at *
  have HW1 := Lib.hid hw1
  have hv1 := hv.on hA1
  obtain ⟨a, cap, rfl, hcap, hcm, hc⟩ := hv
  have HV := Lib.hid hv1; have HC := Lib.hid hc; have KR := Lib.hid kr
  obtain ⟨n, hn⟩ : ∃ n, l.length = n := ⟨_, rfl⟩
  have HN := Lib.hid hn
  rw [hn] at hl hcap
  rw [hn]
  clear hc hn hv1 kr hw1
  go_enter Tryz.func21, Tryz.ntmps21
  go_wp2_with fail
  rw [HW1.out]
  go_loopg [3] (n + 1) (fun f s3 wx => ∃ i : Nat, s3 = .int .i64 (i : Int) ∧ f + i = n + 1 ∧ i ≤ n ∧ faL l l 0 = faL l (l.drop i) i ∧ Below w1.heap.size w1 wx)
  case atStart => exact ⟨0, rfl, rfl, Nat.zero_le _, rfl, Below.refl _ _⟩
  case round =>
    obtain ⟨i, rfl, hg, hi, hp, hBr⟩ := hrel
    have hBW := hA1.trans (hBr.mono hA1.size)
    have kr := KR.out.on hBr
    have p0 := kr.cell 0; have p1 := kr.cell 1; have pf0 := kr.free 0; have pf1 := kr.free 1
    simp at p0 p1
    have HG := Lib.hid hg; have HP := Lib.hid hp
    have hi0 : (0 : Int) ≤ i := by omega
    have f1 : IntKind.i64.wrap ((i : Int) + 1) = (i : Int) + 1 := IntWalk.i64_in _ (by omega)
    by_cases hlt : i < n
    · have hil : i < l.length := by have := HN.out; omega
      obtain ⟨g, o, rfl, hgw, c0, c1⟩ := HC.out i hil
      have hdr := List.drop_eq_getElem_cons hil
      obtain ⟨p, hpp⟩ : ∃ p, l[i] = p := ⟨_, rfl⟩
      rw [hpp] at hdr c0 c1
      have HDR := Lib.hid hdr
      have hiI : (i : Int) < n := by omega
      have HLT := Lib.hid hlt
      obtain ⟨K, V⟩ := p
      simp only at c0 c1
      have c0 := cell_kept c0 hBW
      have c1 := cell_kept c1 hBW
      have hpl := rPlace_any K wr
      have hpc := plc_cases K
      obtain ⟨Pl, hPl⟩ : ∃ x, plcB K = x := ⟨_, rfl⟩
      rw [hPl] at hpl hpc
      have HPL := Lib.hid hPl
      clear hdr hpp hp hg hi hlt hPl hgw
      by_cases hcat : Pl < 0 ∨ Pl = 5
      · have hres : faL l l 0 = (251, (i : Int)) := by rw [HP.out, HDR.out]; exact faL_cat (by rw [HPL.out]; exact hcat)
        have HR := Lib.hid hres
        clear hres hpc
        rcases hcat with hcat | rfl
        all_goals
          go_wp2_with fail
          refine hpl.mono ?_
          rintro e w' ⟨rfl, rfl⟩
          go_wp2_with fail
          obtain ⟨W', hW', r0, r1, hB'⟩ := fault_end kr (Nat.le_refl _) hBW 251 (i : Int)
          rw [hW']
          refine bodyPost_ret (v := .agg #[.int .i64 251, .int .i64 (i : Int)]) (by simp [results, Tryz.results21, go_sem, r0, r1]) rfl ⟨fault_ret (by rw [HR.out]), hB'⟩
      · have hnc : ¬ (plcB K < 0 ∨ plcB K = 5) := by rw [HPL.out]; exact hcat
        have HNC := Lib.hid hnc
        have hk0 : ¬ Pl < 0 := fun h => hcat (.inl h)
        have hk5 : ¬ Pl = 5 := fun h => hcat (.inr h)
        have hk0d : decide (Pl < 0) = false := by simpa using hk0
        have hk5d : (Pl == 5) = false := by simpa using hk5
        have hfd : ∀ W, Below wr.heap.size wr W → Calls Tryz.prog 23 #[.slice (some ⟨g, o, none⟩) (i : Int).toNat cap, .string K] W fun e w' => e = .returned (.int .i64 (fdL K (l.take i) 0)) ∧ W = w' := fun W hW => by
          have h2 := (HV.out.on (hBr.trans (hW.mono hBr.size))).take i (by have := HN.out; have := HLT.out; omega)
          exact rFind_any _ (l.take i) K W h2 (by rw [List.length_take]; omega)
        have HFD := Lib.hid (rfl : fdL K (l.take i) 0 = fdL K (l.take i) 0)
        rw [Int.toNat_natCast] at hfd
        obtain ⟨F, hF⟩ : ∃ F, fdL K (l.take i) 0 = F := ⟨_, rfl⟩
        rw [hF] at hfd
        have HF := Lib.hid hF
        have hicap : (i : Int) ≤ cap := by omega
        have hSd : wr.drew.cell? ⟨g, o + i * 2, none⟩ = some (Value.string K) ∧ Below wr.heap.size wr wr.drew := ⟨cell_kept c0 (Below.refl _ _).drew, (Below.refl _ _).drew⟩
        clear hnc hcat hpc hF
        go_wp2_with fail
        refine hpl.mono ?_
        rintro e w' ⟨rfl, rfl⟩
        go_upto_region 7 with fail
        by_cases hF0 : 0 ≤ F
        · have hres : faL l l 0 = (211, (i : Int)) := by rw [HP.out, HDR.out]; exact faL_again HNC.out (by rw [HF.out]; exact hF0)
          have HR := Lib.hid hres
          have kd := kr.on (Below.refl wr.heap.size wr).drew
          have hBWd := hBW.drew
          clear hres p0 p1 pf0 pf1 c0
          refine wp_region_held_drew (S := fun w' => w'.cell? ⟨g, o + i * 2, none⟩ = some (Value.string K) ∧ Below wr.heap.size wr w') (by kernel_rfl) (hSd) (fun hHeld => ?_)
          refine wpAnyH_take (i := 0) (v := ?_) rfl (by kernel_rfl) (by kernel_rfl) (by kernel_rfl) (fun _ _ _ h => h) (Or.inl ⟨by rfl, ?_⟩) hHeld ?_
          rotate_left
          · intro w hSw; (try dsimp only at hSw); first | (go_simp; done) | (go_simp; with_reducible rfl)
          try simp only [Act.put, List.setIfInBounds_toArray, List.set_cons_zero, List.set_cons_succ, List.getElem_toArray, List.getElem_cons_zero]
          refine wpAnyH_take (i := 1) (v := ?_) rfl (by kernel_rfl) (by kernel_rfl) (by kernel_rfl) (fun _ _ _ h => h) (Or.inl ⟨by rfl, ?_⟩) hHeld ?_
          rotate_left
          · intro w hSw; (try dsimp only at hSw); first | (go_simp; done) | (go_simp; with_reducible rfl)
          try simp only [Act.put, List.setIfInBounds_toArray, List.set_cons_zero, List.set_cons_succ, List.getElem_toArray, List.getElem_cons_zero, List.getElem_cons_succ]
          refine wpAnyH_take (i := 2) (v := ?_) rfl (by kernel_rfl) (by kernel_rfl) (by kernel_rfl) (fun _ _ _ h => h) (Or.inl ⟨by rfl, ?_⟩) hHeld ?_
          rotate_left
          · intro w hSw; (try dsimp only at hSw); first | (go_simp; done) | (go_simp; with_reducible rfl)
          try simp only [Act.put, List.setIfInBounds_toArray, List.set_cons_zero, List.set_cons_succ, List.getElem_toArray, List.getElem_cons_zero, List.getElem_cons_succ]
          refine wpAnyH_take (i := 3) (v := ?_) rfl (by kernel_rfl) (by kernel_rfl) (by kernel_rfl) (fun _ _ _ h => h) (Or.inl ⟨by rfl, ?_⟩) hHeld ?_
          rotate_left
          · intro w hSw; (try dsimp only at hSw); first | (go_simp; done) | (go_simp; with_reducible rfl)
          try simp only [Act.put, List.setIfInBounds_toArray, List.set_cons_zero, List.set_cons_succ, List.getElem_toArray, List.getElem_cons_zero, List.getElem_cons_succ]
          refine wpAnyH_take (i := 4) (v := ?_) rfl (by kernel_rfl) (by kernel_rfl) (by kernel_rfl) (fun _ _ _ h => h) (Or.inl ⟨by rfl, ?_⟩) hHeld ?_
          rotate_left
          · intro w hSw; (try dsimp only at hSw); first | (go_simp; done) | (go_simp; with_reducible rfl)
          try simp only [Act.put, List.setIfInBounds_toArray, List.set_cons_zero, List.set_cons_succ, List.getElem_toArray, List.getElem_cons_zero, List.getElem_cons_succ]
          refine wpAnyH_take (i := 5) (v := ?_) rfl (by kernel_rfl) (by kernel_rfl) (by kernel_rfl) (fun _ _ _ h => h) (Or.inl ⟨by rfl, ?_⟩) hHeld ?_
          rotate_left
          · intro w hSw; (try dsimp only at hSw); first | (go_simp; done) | (go_simp; with_reducible rfl)
          try simp only [Act.put, List.setIfInBounds_toArray, List.set_cons_zero, List.set_cons_succ, List.getElem_toArray, List.getElem_cons_zero, List.getElem_cons_succ]
          refine wpAnyH_take (i := 6) (v := ?_) rfl (by kernel_rfl) (by kernel_rfl) (by kernel_rfl) (fun _ _ _ h => h) (Or.inl ⟨by rfl, ?_⟩) hHeld ?_
          rotate_left
          · intro w hSw; (try dsimp only at hSw); first | (go_simp; done) | (go_simp; with_reducible rfl)
          try simp only [Act.put, List.setIfInBounds_toArray, List.set_cons_zero, List.set_cons_succ, List.getElem_toArray, List.getElem_cons_zero, List.getElem_cons_succ]
          refine wpAnyH_take (i := 7) (v := ?_) rfl (by kernel_rfl) (by kernel_rfl) (by kernel_rfl) (fun _ _ _ h => h) (Or.inl ⟨by rfl, ?_⟩) hHeld ?_
          rotate_left
          · intro w hSw; (try dsimp only at hSw); first | (go_simp; done) | (go_simp; with_reducible rfl)
          try simp only [Act.put, List.setIfInBounds_toArray, List.set_cons_zero, List.set_cons_succ, List.getElem_toArray, List.getElem_cons_zero, List.getElem_cons_succ]
          refine wpAnyH_ready (rs := [8]) (by kernel_rfl) (by simp) ?_
          refine AllReadyH.cons rfl (fun K hK => ?_) AllReadyH.nil
          go_simp
          go_wp2_with (go_at_call 23; refine (hfd _ hSd.2).mono ?_; rintro e wy ⟨rfl, rfl⟩)
          refine hK.out _ _ (hSd) (fun hHeld => ?_)
          clear hK K
          refine wpAnyH_take (i := 9) (v := ?_) rfl (by kernel_rfl) (by kernel_rfl) (by kernel_rfl) (fun _ _ _ h => h) (Or.inl ⟨by rfl, ?_⟩) hHeld ?_
          rotate_left
          · intro w hSw; (try dsimp only at hSw); first | (go_simp; done) | (go_simp; with_reducible rfl)
          try simp only [Act.put, List.setIfInBounds_toArray, List.set_cons_zero, List.set_cons_succ, List.getElem_toArray, List.getElem_cons_zero, List.getElem_cons_succ]
          refine wpAnyH_done (by kernel_rfl) ?_ _
          clear hSd hHeld hfd
          generalize wr.drew = w4 at *
          have q0 := kd.cell 0; have q1 := kd.cell 1; have qf0 := kd.free 0; have qf1 := kd.free 1
          simp at q0 q1
          go_wp2_with fail
          obtain ⟨W', hW', r0, r1, hB'⟩ := fault_end kd (Nat.le_refl _) hBWd 211 (i : Int)
          rw [hW']
          refine bodyPost_ret (v := .agg #[.int .i64 211, .int .i64 (i : Int)]) (by simp [results, Tryz.results21, go_sem, r0, r1]) rfl ⟨fault_ret (by rw [HR.out]), hB'⟩
        · have hF0d : decide (0 ≤ F) = false := by simpa using hF0
          have kd := kr.on (Below.refl wr.heap.size wr).drew
          have c1d := cell_kept c1 (Below.refl wr.heap.size wr).drew
          have hBrd := hBr.drew
          have hBWd := hBW.drew
          have hNF : fdL K (l.take i) 0 < 0 := by rw [HF.out]; omega
          have HNF := Lib.hid hNF
          clear hNF p0 p1 pf0 pf1 c0 c1 kr hBr hBW
          refine wp_region_held_drew (S := fun w' => w'.cell? ⟨g, o + i * 2, none⟩ = some (Value.string K) ∧ Below wr.heap.size wr w') (by kernel_rfl) (hSd) (fun hHeld => ?_)
          refine wpAnyH_take (i := 0) (v := ?_) rfl (by kernel_rfl) (by kernel_rfl) (by kernel_rfl) (fun _ _ _ h => h) (Or.inl ⟨by rfl, ?_⟩) hHeld ?_
          rotate_left
          · intro w hSw; (try dsimp only at hSw); first | (go_simp; done) | (go_simp; with_reducible rfl)
          try simp only [Act.put, List.setIfInBounds_toArray, List.set_cons_zero, List.set_cons_succ, List.getElem_toArray, List.getElem_cons_zero]
          refine wpAnyH_take (i := 1) (v := ?_) rfl (by kernel_rfl) (by kernel_rfl) (by kernel_rfl) (fun _ _ _ h => h) (Or.inl ⟨by rfl, ?_⟩) hHeld ?_
          rotate_left
          · intro w hSw; (try dsimp only at hSw); first | (go_simp; done) | (go_simp; with_reducible rfl)
          try simp only [Act.put, List.setIfInBounds_toArray, List.set_cons_zero, List.set_cons_succ, List.getElem_toArray, List.getElem_cons_zero, List.getElem_cons_succ]
          refine wpAnyH_take (i := 2) (v := ?_) rfl (by kernel_rfl) (by kernel_rfl) (by kernel_rfl) (fun _ _ _ h => h) (Or.inl ⟨by rfl, ?_⟩) hHeld ?_
          rotate_left
          · intro w hSw; (try dsimp only at hSw); first | (go_simp; done) | (go_simp; with_reducible rfl)
          try simp only [Act.put, List.setIfInBounds_toArray, List.set_cons_zero, List.set_cons_succ, List.getElem_toArray, List.getElem_cons_zero, List.getElem_cons_succ]
          refine wpAnyH_take (i := 3) (v := ?_) rfl (by kernel_rfl) (by kernel_rfl) (by kernel_rfl) (fun _ _ _ h => h) (Or.inl ⟨by rfl, ?_⟩) hHeld ?_
          rotate_left
          · intro w hSw; (try dsimp only at hSw); first | (go_simp; done) | (go_simp; with_reducible rfl)
          try simp only [Act.put, List.setIfInBounds_toArray, List.set_cons_zero, List.set_cons_succ, List.getElem_toArray, List.getElem_cons_zero, List.getElem_cons_succ]
          refine wpAnyH_take (i := 4) (v := ?_) rfl (by kernel_rfl) (by kernel_rfl) (by kernel_rfl) (fun _ _ _ h => h) (Or.inl ⟨by rfl, ?_⟩) hHeld ?_
          rotate_left
          · intro w hSw; (try dsimp only at hSw); first | (go_simp; done) | (go_simp; with_reducible rfl)
          try simp only [Act.put, List.setIfInBounds_toArray, List.set_cons_zero, List.set_cons_succ, List.getElem_toArray, List.getElem_cons_zero, List.getElem_cons_succ]
          refine wpAnyH_take (i := 5) (v := ?_) rfl (by kernel_rfl) (by kernel_rfl) (by kernel_rfl) (fun _ _ _ h => h) (Or.inl ⟨by rfl, ?_⟩) hHeld ?_
          rotate_left
          · intro w hSw; (try dsimp only at hSw); first | (go_simp; done) | (go_simp; with_reducible rfl)
          try simp only [Act.put, List.setIfInBounds_toArray, List.set_cons_zero, List.set_cons_succ, List.getElem_toArray, List.getElem_cons_zero, List.getElem_cons_succ]
          refine wpAnyH_take (i := 6) (v := ?_) rfl (by kernel_rfl) (by kernel_rfl) (by kernel_rfl) (fun _ _ _ h => h) (Or.inl ⟨by rfl, ?_⟩) hHeld ?_
          rotate_left
          · intro w hSw; (try dsimp only at hSw); first | (go_simp; done) | (go_simp; with_reducible rfl)
          try simp only [Act.put, List.setIfInBounds_toArray, List.set_cons_zero, List.set_cons_succ, List.getElem_toArray, List.getElem_cons_zero, List.getElem_cons_succ]
          refine wpAnyH_take (i := 7) (v := ?_) rfl (by kernel_rfl) (by kernel_rfl) (by kernel_rfl) (fun _ _ _ h => h) (Or.inl ⟨by rfl, ?_⟩) hHeld ?_
          rotate_left
          · intro w hSw; (try dsimp only at hSw); first | (go_simp; done) | (go_simp; with_reducible rfl)
          try simp only [Act.put, List.setIfInBounds_toArray, List.set_cons_zero, List.set_cons_succ, List.getElem_toArray, List.getElem_cons_zero, List.getElem_cons_succ]
          refine wpAnyH_ready (rs := [8]) (by kernel_rfl) (by simp) ?_
          refine AllReadyH.cons rfl (fun K hK => ?_) AllReadyH.nil
          go_simp
          go_wp2_with (go_at_call 23; refine (hfd _ hSd.2).mono ?_; rintro e wy ⟨rfl, rfl⟩)
          refine hK.out _ _ (hSd) (fun hHeld => ?_)
          clear hK K
          refine wpAnyH_take (i := 9) (v := ?_) rfl (by kernel_rfl) (by kernel_rfl) (by kernel_rfl) (fun _ _ _ h => h) (Or.inl ⟨by rfl, ?_⟩) hHeld ?_
          rotate_left
          · intro w hSw; (try dsimp only at hSw); first | (go_simp; done) | (go_simp; with_reducible rfl)
          try simp only [Act.put, List.setIfInBounds_toArray, List.set_cons_zero, List.set_cons_succ, List.getElem_toArray, List.getElem_cons_zero, List.getElem_cons_succ]
          refine wpAnyH_done (by kernel_rfl) ?_ _
          clear hSd hHeld hfd
          generalize wr.drew = w4 at *
          have q0 := kd.cell 0; have q1 := kd.cell 1; have qf0 := kd.free 0; have qf1 := kd.free 1
          simp at q0 q1
          by_cases hz : 4096 < V.size
          · have hzI : (4096 : Int) < V.size := by omega
            have hres : faL l l 0 = (3, (i : Int)) := by rw [HP.out, HDR.out]; exact faL_long HNC.out (by have := HNF.out; simp only; omega) hz
            have HR := Lib.hid hres
            clear hres hz
            go_wp2_with fail
            obtain ⟨W', hW', r0, r1, hB'⟩ := fault_end kd (Nat.le_refl _) hBWd 3 (i : Int)
            rw [hW']
            refine bodyPost_ret (v := .agg #[.int .i64 3, .int .i64 (i : Int)]) (by simp [results, Tryz.results21, go_sem, r0, r1]) rfl ⟨fault_ret (by rw [HR.out]), hB'⟩
          · have hzI : ¬ (4096 : Int) < V.size := by omega
            have hrf := rParse_any V (by omega) w4
            unfold RParse at hrf
            have HZ := Lib.hid hz
            clear hz q0 q1 qf0 qf1
            go_wp2_with fail
            refine hrf.mono ?_
            rintro e w5 ⟨h5, hB5⟩
            have kd := kd.on hB5
            have hBr5 := hBrd.trans (hB5.mono hBrd.size)
            have hBW5 := hBWd.trans (hB5.mono hBWd.size)
            have q0 := kd.cell 0; have q1 := kd.cell 1; have qf0 := kd.free 0; have qf1 := kd.free 1
            simp at q0 q1
            cases hru : ruleP V with
            | bad q =>
              rw [hru] at h5
              have h5 : e = .returned (.agg #[.slice none 0 0, .string ⟨#[]⟩, .int .i64 (q : Int)]) := h5
              subst h5
              have hq0 : (0 : Int) ≤ q := by omega
              have hfl := field_rule none 0 0 ⟨#[]⟩ (q : Int)
              have hres : faL l l 0 = (250, (i : Int)) := by rw [HP.out, HDR.out]; exact faL_bad HNC.out (by have := HNF.out; simp only; omega) HZ.out hru
              have HR := Lib.hid hres
              clear hres hru hrf
              go_wp2_with fail
              obtain ⟨W', hW', r0, r1, hB'⟩ := fault_end kd (Nat.le_refl _) hBW5 250 (i : Int)
              rw [hW']
              refine bodyPost_ret (v := .agg #[.int .i64 250, .int .i64 (i : Int)]) (by simp [results, Tryz.results21, go_sem, r0, r1]) rfl ⟨fault_ret (by rw [HR.out]), hB'⟩
            | ok q rows t =>
              rw [hru] at h5
              obtain ⟨ra, rn, rc, h5, _⟩ := (show ∃ a n c, e = .returned (.agg #[.slice a n c, .string t, .int .i64 (-1)]) ∧ AnyA w5 (.slice a n c) rows from h5)
              subst h5
              have hnx : faL l l 0 = faL l (l.drop (i + 1)) (i + 1) := by rw [HP.out, HDR.out]; exact faL_ok HNC.out (by have := HNF.out; simp only; omega) HZ.out hru
              have HNX := Lib.hid hnx
              have HB5 := Lib.hid hBr5
              have hfl := field_rule ra rn rc t (-1)
              clear hnx hru hrf q0 q1 qf0 qf1 hBr5 hBW5 hBrd hBWd hB5
              go_wp2_with fail
              go_roundg (n - i)
              case rel => exact ⟨i + 1, by simp, by have := HG.out; have := HLT.out; omega, HLT.out, HNX.out, HB5.out⟩
              case measure => have := HG.out; have := HLT.out; omega
    · have hiI : ¬ (i : Int) < n := by omega
      have hres : faL l l 0 = (0, 0) := by
        rw [hp, List.drop_eq_nil_of_le (by have := HN.out; omega)]
        rfl
      have HR := Lib.hid hres
      clear hres hp hg hi hlt
      go_wp2_with fail
      obtain ⟨W', hW', r0, r1, hB'⟩ := fault_end kr (Nat.le_refl _) hBW 0 0
      rw [hW']
      refine bodyPost_ret (v := .agg #[.int .i64 0, .int .i64 0]) (by simp [results, Tryz.results21, go_sem, r0, r1]) rfl ⟨fault_ret (by rw [HR.out]), hB'⟩
end

section
open Go.RowKit Go.PlainAid

theorem catF_no {g : ByteArray → Option (List (List Rl))} {neg : Bool} {ds : ByteArray} {sc : Int} (hr : rightB neg ds sc = false) : ∀ f i, catF g neg ds sc f i = otherB
  | 0, _ => rfl
  | f + 1, i => by
    unfold catF
    rw [if_neg, catF_no hr f (i + 1)]
    cases g (nameB (i : Int)) with
    | none => simp
    | some rows => simp [metB, hr]

theorem catF_none {g : ByteArray → Option (List (List Rl))} {neg : Bool} {ds : ByteArray} {sc : Int} {f i : Nat} (h : g (nameB (i : Int)) = none) : catF g neg ds sc (f + 1) i = catF g neg ds sc f (i + 1) := by
  conv => lhs; unfold catF
  simp [h]
theorem catF_yes {g : ByteArray → Option (List (List Rl))} {neg : Bool} {ds : ByteArray} {sc : Int} {f i : Nat} {rows : List (List Rl)} (h : g (nameB (i : Int)) = some rows) (hm : metB neg ds sc rows = true) : catF g neg ds sc (f + 1) i = nameB (i : Int) := by
  conv => lhs; unfold catF
  simp [h, hm]
theorem catF_nn {g : ByteArray → Option (List (List Rl))} {neg : Bool} {ds : ByteArray} {sc : Int} {f i : Nat} {rows : List (List Rl)} (h : g (nameB (i : Int)) = some rows) (hm : metB neg ds sc rows = false) : catF g neg ds sc (f + 1) i = catF g neg ds sc f (i + 1) := by
  conv => lhs; unfold catF
  simp [h, hm]

set_option maxRecDepth 100000 in
set_option maxHeartbeats 4000000 in
theorem rCat_any (v : Value) (l : List Pr2) (neg : Bool) (ds : ByteArray) (sc : Int) (w : World) (hv : PaAt w v l) (hl : l.length ≤ 1000000) (hok : AllOk l) :
    Calls Tryz.prog 22 #[v, .agg #[.bool neg, .string ds, .int .i64 sc]] w fun e w' => e = .returned (.string (catF (rlsOf l) neg ds sc 5 0)) ∧ Below w.heap.size w w' := by
  have hA1 := (Below.refl w.heap.size w).alloc (Nat.le_refl _) (.cells #[.bool neg, .string ds, .int .i64 sc] 23)
  have kd := Blk.new w #[.bool neg, .string ds, .int .i64 sc] 23
  generalize hw1 : w.alloc (.cells #[.bool neg, .string ds, .int .i64 sc] 23) = w1 at *
  have HW1 := Lib.hid hw1
  have hv1 := hv.on hA1
  obtain ⟨a, cap, rfl, hcap, hcm, hc⟩ := hv
  have HV := Lib.hid hv1; have HC := Lib.hid hc; have KD := Lib.hid kd
  obtain ⟨n, hn⟩ : ∃ n, l.length = n := ⟨_, rfl⟩
  have HN := Lib.hid hn
  rw [hn] at hl hcap
  rw [hn]
  rw [hn] at HV
  clear hc hn hv1 kd hw1
  go_enter Tryz.func22, Tryz.ntmps22
  go_wp2_with fail
  rw [HW1.out]
  go_loopg [5] 6 (fun f s5 wx => ∃ i : Nat, s5 = .int .i64 (i : Int) ∧ f + i = 6 ∧ i ≤ 5 ∧ catF (rlsOf l) neg ds sc 5 0 = catF (rlsOf l) neg ds sc (5 - i) i ∧ Below w1.heap.size w1 wx)
  case atStart => exact ⟨0, rfl, rfl, Nat.zero_le _, rfl, Below.refl _ _⟩
  case round =>
    obtain ⟨i, rfl, hg, hi, hp, hBr⟩ := hrel
    have hBW := hA1.trans (hBr.mono hA1.size)
    have kd := KD.out.on hBr
    have cd := kd.cell
    have HG := Lib.hid hg; have HP := Lib.hid hp; have HBR := Lib.hid hBr; have HBW := Lib.hid hBW
    have hi0 : (0 : Int) ≤ i := by omega
    have f1 : IntKind.i64.wrap ((i : Int) + 1) = (i : Int) + 1 := IntWalk.i64_in _ (by omega)
    by_cases hlt : i < 5
    · have hiI : (i : Int) < 5 := by omega
      have HLT := Lib.hid hlt
      cases hr : rightB neg ds sc with
      | false =>
        have hrr := rRight_is hr wr
        have hres : catF (rlsOf l) neg ds sc 5 0 = otherB := catF_no hr _ _
        have HR := Lib.hid hres
        clear hres hp hg hi hlt hr
        go_wp2_with fail
        refine hrr.mono ?_
        rintro e w2 ⟨rfl, hB2⟩
        have hE := hBW.trans (hB2.mono hBW.size)
        go_wp2_with fail
        go_ret
        exact ⟨by rw [HR.out]; rfl, hE⟩
      | true =>
        have h0 : 0 ≤ sc := (of_decide_eq_true hr).2.2.1
        obtain ⟨k, rfl⟩ : ∃ k : Nat, sc = k := ⟨sc.toNat, by omega⟩
        have hrr := rRight_is hr wr
        have HRT := Lib.hid hr
        have hst : 5 - i = (5 - (i + 1)) + 1 := by omega
        have HST := Lib.hid hst
        clear hst hp hg hi hlt hr h0
        go_wp2_with fail
        refine hrr.mono ?_
        rintro e w2 ⟨rfl, hB2⟩
        have hBr := HBR.out.trans (hB2.mono HBR.out.size)
        have hBW := HBW.out.trans (hB2.mono HBW.out.size)
        have kd := kd.on hB2
        have cd := kd.cell
        have hnm := rName_any (i : Int) w2
        obtain ⟨NM, hNM⟩ : ∃ x, nameB (i : Int) = x := ⟨_, rfl⟩
        rw [hNM] at hnm
        have HNM := Lib.hid hNM
        have hfd := rFind_any _ l NM w2 (HV.out.on hBr) (by rw [HN.out]; exact hl)
        obtain ⟨F, hF⟩ : ∃ F, fdL NM l 0 = F := ⟨_, rfl⟩
        rw [hF] at hfd
        have HF := Lib.hid hF
        have hF1 := fdL_ge (s := NM) l 0
        rw [hF, HN.out, Nat.zero_add] at hF1
        have HF1 := Lib.hid hF1
        have HBR := Lib.hid hBr; have HBW := Lib.hid hBW
        generalize w2 = wr at *
        clear hrr hNM hF hF1 hB2 hBr hBW
        go_wp2_with fail
        refine hnm.mono ?_
        rintro e w' ⟨rfl, rfl⟩
        go_wp2_with fail
        refine hfd.mono ?_
        rintro e w' ⟨rfl, rfl⟩
        clear hnm hfd
        by_cases hneg : F < 0
        · have hnone : rlsOf l NM = none := rlsOf_none (by rw [HF.out]; exact hneg)
          have hnx : catF (rlsOf l) neg ds (k : Int) 5 0 = catF (rlsOf l) neg ds (k : Int) (5 - (i + 1)) (i + 1) := by
            rw [HP.out, HST.out]
            exact catF_none (by rw [HNM.out]; exact hnone)
          have HNX := Lib.hid hnx
          have hge : decide (0 ≤ F) = false := by simpa using hneg
          have hgd : decide (F ≥ 0) = false := by simpa using hneg
          have hBd := HBR.out.drew
          have HBD := Lib.hid hBd
          clear hnx hnone hBd
          go_upto_region 5 with fail
          refine wp_region_held_drew (S := fun w' => Below wr.heap.size wr w') (by kernel_rfl) ((Below.refl wr.heap.size wr).drew) (fun hHeld => ?_)
          refine wpAnyH_take (i := 0) (v := ?_) rfl (by kernel_rfl) (by kernel_rfl) (by kernel_rfl) (fun _ _ _ h => h) (Or.inl ⟨by rfl, ?_⟩) hHeld ?_
          rotate_left
          · intro w hSw; (try dsimp only at hSw); first | (go_simp; done) | (go_simp; with_reducible rfl)
          try simp only [Act.put, List.setIfInBounds_toArray, List.set_cons_zero, List.set_cons_succ, List.getElem_toArray, List.getElem_cons_zero]
          refine wpAnyH_take (i := 1) (v := ?_) rfl (by kernel_rfl) (by kernel_rfl) (by kernel_rfl) (fun _ _ _ h => h) (Or.inl ⟨by rfl, ?_⟩) hHeld ?_
          rotate_left
          · intro w hSw; (try dsimp only at hSw); first | (go_simp; done) | (go_simp; with_reducible rfl)
          try simp only [Act.put, List.setIfInBounds_toArray, List.set_cons_zero, List.set_cons_succ, List.getElem_toArray, List.getElem_cons_zero, List.getElem_cons_succ]
          refine wpAnyH_take (i := 2) (v := ?_) rfl (by kernel_rfl) (by kernel_rfl) (by kernel_rfl) (fun _ _ _ h => h) (Or.inl ⟨by rfl, ?_⟩) hHeld ?_
          rotate_left
          · intro w hSw; (try dsimp only at hSw); first | (go_simp; done) | (go_simp; with_reducible rfl)
          try simp only [Act.put, List.setIfInBounds_toArray, List.set_cons_zero, List.set_cons_succ, List.getElem_toArray, List.getElem_cons_zero, List.getElem_cons_succ]
          refine wpAnyH_take (i := 3) (v := undef) rfl (by kernel_rfl) (by kernel_rfl) (by kernel_rfl) (fun _ _ _ h => h) (Or.inr ⟨by rfl, rfl⟩) hHeld ?_
          try simp only [Act.put, List.setIfInBounds_toArray, List.set_cons_zero, List.set_cons_succ, List.getElem_toArray, List.getElem_cons_zero, List.getElem_cons_succ]
          refine wpAnyH_take (i := 4) (v := undef) rfl (by kernel_rfl) (by kernel_rfl) (by kernel_rfl) (fun _ _ _ h => h) (Or.inr ⟨by rfl, rfl⟩) hHeld ?_
          try simp only [Act.put, List.setIfInBounds_toArray, List.set_cons_zero, List.set_cons_succ, List.getElem_toArray, List.getElem_cons_zero, List.getElem_cons_succ]
          refine wpAnyH_take (i := 5) (v := undef) rfl (by kernel_rfl) (by kernel_rfl) (by kernel_rfl) (fun _ _ _ h => h) (Or.inr ⟨by rfl, rfl⟩) hHeld ?_
          try simp only [Act.put, List.setIfInBounds_toArray, List.set_cons_zero, List.set_cons_succ, List.getElem_toArray, List.getElem_cons_zero, List.getElem_cons_succ]
          refine wpAnyH_take (i := 6) (v := undef) rfl (by kernel_rfl) (by kernel_rfl) (by kernel_rfl) (fun _ _ _ h => h) (Or.inr ⟨by rfl, rfl⟩) hHeld ?_
          try simp only [Act.put, List.setIfInBounds_toArray, List.set_cons_zero, List.set_cons_succ, List.getElem_toArray, List.getElem_cons_zero, List.getElem_cons_succ]
          refine wpAnyH_take (i := 7) (v := undef) rfl (by kernel_rfl) (by kernel_rfl) (by kernel_rfl) (fun _ _ _ h => h) (Or.inr ⟨by rfl, rfl⟩) hHeld ?_
          try simp only [Act.put, List.setIfInBounds_toArray, List.set_cons_zero, List.set_cons_succ, List.getElem_toArray, List.getElem_cons_zero, List.getElem_cons_succ]
          refine wpAnyH_take (i := 8) (v := undef) rfl (by kernel_rfl) (by kernel_rfl) (by kernel_rfl) (fun _ _ _ h => h) (Or.inr ⟨by rfl, rfl⟩) hHeld ?_
          try simp only [Act.put, List.setIfInBounds_toArray, List.set_cons_zero, List.set_cons_succ, List.getElem_toArray, List.getElem_cons_zero, List.getElem_cons_succ]
          refine wpAnyH_take (i := 9) (v := undef) rfl (by kernel_rfl) (by kernel_rfl) (by kernel_rfl) (fun _ _ _ h => h) (Or.inr ⟨by rfl, rfl⟩) hHeld ?_
          try simp only [Act.put, List.setIfInBounds_toArray, List.set_cons_zero, List.set_cons_succ, List.getElem_toArray, List.getElem_cons_zero, List.getElem_cons_succ]
          refine wpAnyH_take (i := 10) (v := undef) rfl (by kernel_rfl) (by kernel_rfl) (by kernel_rfl) (fun _ _ _ h => h) (Or.inr ⟨by rfl, rfl⟩) hHeld ?_
          try simp only [Act.put, List.setIfInBounds_toArray, List.set_cons_zero, List.set_cons_succ, List.getElem_toArray, List.getElem_cons_zero, List.getElem_cons_succ]
          refine wpAnyH_take (i := 11) (v := ?_) rfl (by kernel_rfl) (by kernel_rfl) (by kernel_rfl) (fun _ _ _ h => h) (Or.inl ⟨by rfl, ?_⟩) hHeld ?_
          rotate_left
          · intro w hSw; (try dsimp only at hSw); first | (go_simp; done) | (go_simp; with_reducible rfl)
          try simp only [Act.put, List.setIfInBounds_toArray, List.set_cons_zero, List.set_cons_succ, List.getElem_toArray, List.getElem_cons_zero, List.getElem_cons_succ]
          refine wpAnyH_done (by kernel_rfl) ?_ _
          clear hHeld
          go_wp2_with fail
          go_roundg (5 - i)
          case rel => exact ⟨i + 1, by simp, by have := HG.out; have := HLT.out; omega, HLT.out, HNX.out, HBD.out⟩
          case measure => have := HG.out; have := HLT.out; omega
        · obtain ⟨at_, rfl⟩ : ∃ m : Nat, F = m := ⟨F.toNat, by omega⟩
          have hat : at_ < n := by rcases HF1.out with h | h <;> omega
          have hatl : at_ < l.length := by rw [HN.out]; exact hat
          obtain ⟨p, hp1, hp2, hp3⟩ := fdL_find l 0 at_ HF.out (Nat.zero_le _)
          obtain ⟨q, rows, t, hq1, hq2⟩ := hok p (List.mem_of_getElem? hp1)
          have hrl : rlsOf l NM = some rows := by
            unfold rlsOf
            rw [hp3]
            simp [hq1]
          rw [Nat.sub_zero, List.getElem?_eq_getElem hatl] at hp1
          have hp4 : l[at_] = p := Option.some.inj hp1
          obtain ⟨g, o, rfl, hgw, c00, c1⟩ := HC.out at_ hatl
          rw [hp4] at c1
          obtain ⟨KK, V⟩ := p
          simp only at c1 hq1 hq2
          have c1 := cell_kept c1 HBW.out
          have hrf : ∀ W, Below wr.heap.size wr W → Calls Tryz.prog 24 #[.string V] W fun e w' => (∃ ra rn rc, e = .returned (.agg #[.slice ra rn rc, .string t, .int .i64 (-1)]) ∧ AnyA w' (.slice ra rn rc) rows) ∧ Below W.heap.size W w' := fun W _ =>
            (rParse_any V hq2 W).mono fun e w' ⟨h1, h2⟩ => ⟨by rw [hq1] at h1; exact h1, h2⟩
          have hoA := ruleP_ok hq2 hq1
          have hhl : ∀ W ra rn rc, AnyA W (.slice ra rn rc) rows → Calls Tryz.prog 27 #[.agg #[.slice ra rn rc, .string t, .int .i64 (-1)], .agg #[.bool neg, .string ds, .int .i64 (k : Int)]] W fun e w' => e = .returned (.bool (rowsH ds k rows)) ∧ Below W.heap.size W w' :=
            fun W ra rn rc h => rRuleH_any HRT.out ra rn rc t (-1) rows W h hoA
          have hmet : metB neg ds (k : Int) rows = rowsH ds k rows := by unfold metB; rw [HRT.out]; rfl
          obtain ⟨H, hH⟩ : ∃ H, rowsH ds k rows = H := ⟨_, rfl⟩
          rw [hH] at hmet hhl
          have HMET := Lib.hid hmet; have HRL := Lib.hid hrl
          have hSd : (∀ j, wr.drew.cell? ⟨w.heap.size, j, none⟩ = #[Value.bool neg, Value.string ds, Value.int .i64 (k : Int)][j]?) ∧ wr.drew.cell? ⟨g, o + at_ * 2 + 1, none⟩ = some (Value.string V) ∧ Below wr.heap.size wr wr.drew := ⟨(kd.on (Below.refl _ _).drew).cell, cell_kept c1 (Below.refl _ _).drew, (Below.refl _ _).drew⟩
          have hKeep : ∀ W W' : World, ((∀ j, W.cell? ⟨w.heap.size, j, none⟩ = #[Value.bool neg, Value.string ds, Value.int .i64 (k : Int)][j]?) ∧ W.cell? ⟨g, o + at_ * 2 + 1, none⟩ = some (Value.string V) ∧ Below wr.heap.size wr W) → Below W.heap.size W W' → ((∀ j, W'.cell? ⟨w.heap.size, j, none⟩ = #[Value.bool neg, Value.string ds, Value.int .i64 (k : Int)][j]?) ∧ W'.cell? ⟨g, o + at_ * 2 + 1, none⟩ = some (Value.string V) ∧ Below wr.heap.size wr W') := fun W W' ⟨_, h2, h3⟩ hB =>
            ⟨(kd.on (h3.trans (hB.mono h3.size))).cell, cell_kept h2 hB, h3.trans (hB.mono h3.size)⟩
          have hatI : (at_ : Int) < n := by omega
          have hat0 : (0 : Int) ≤ at_ := by omega
          have hmul : at_ * 2 + 1 < n * 2 := by omega
          clear hmet hH hoA hq1 hq2 hrl hp1 hp2 hp3 hp4 hgw c00 c1 hneg hat hatl kd cd
          go_upto_region 5 with fail
          refine wp_region_held_drew (S := fun w' => (∀ j, w'.cell? ⟨w.heap.size, j, none⟩ = #[Value.bool neg, Value.string ds, Value.int .i64 (k : Int)][j]?) ∧ w'.cell? ⟨g, o + at_ * 2 + 1, none⟩ = some (Value.string V) ∧ Below wr.heap.size wr w') (by kernel_rfl) (hSd) (fun hHeld => ?_)
          refine wpAnyH_take (i := 0) (v := ?_) rfl (by kernel_rfl) (by kernel_rfl) (by kernel_rfl) (fun _ _ _ h => h) (Or.inl ⟨by rfl, ?_⟩) hHeld ?_
          rotate_left
          · intro w hSw; (try dsimp only at hSw); first | (go_simp; done) | (go_simp; with_reducible rfl)
          try simp only [Act.put, List.setIfInBounds_toArray, List.set_cons_zero, List.set_cons_succ, List.getElem_toArray, List.getElem_cons_zero]
          refine wpAnyH_take (i := 1) (v := ?_) rfl (by kernel_rfl) (by kernel_rfl) (by kernel_rfl) (fun _ _ _ h => h) (Or.inl ⟨by rfl, ?_⟩) hHeld ?_
          rotate_left
          · intro w hSw; (try dsimp only at hSw); first | (go_simp; done) | (go_simp; with_reducible rfl)
          try simp only [Act.put, List.setIfInBounds_toArray, List.set_cons_zero, List.set_cons_succ, List.getElem_toArray, List.getElem_cons_zero, List.getElem_cons_succ]
          refine wpAnyH_take (i := 2) (v := ?_) rfl (by kernel_rfl) (by kernel_rfl) (by kernel_rfl) (fun _ _ _ h => h) (Or.inl ⟨by rfl, ?_⟩) hHeld ?_
          rotate_left
          · intro w hSw; (try dsimp only at hSw); first | (go_simp; done) | (go_simp; with_reducible rfl)
          try simp only [Act.put, List.setIfInBounds_toArray, List.set_cons_zero, List.set_cons_succ, List.getElem_toArray, List.getElem_cons_zero, List.getElem_cons_succ]
          refine wpAnyH_take (i := 3) (v := ?_) rfl (by kernel_rfl) (by kernel_rfl) (by kernel_rfl) (fun _ _ _ h => h) (Or.inl ⟨by rfl, ?_⟩) hHeld ?_
          rotate_left
          · intro w hSw; (try dsimp only at hSw); first | (go_simp; done) | (go_simp; with_reducible rfl)
          try simp only [Act.put, List.setIfInBounds_toArray, List.set_cons_zero, List.set_cons_succ, List.getElem_toArray, List.getElem_cons_zero, List.getElem_cons_succ]
          refine wpAnyH_take (i := 4) (v := ?_) rfl (by kernel_rfl) (by kernel_rfl) (by kernel_rfl) (fun _ _ _ h => h) (Or.inl ⟨by rfl, ?_⟩) hHeld ?_
          rotate_left
          · intro w hSw; (try dsimp only at hSw); first | (go_simp; done) | (go_simp; with_reducible rfl)
          try simp only [Act.put, List.setIfInBounds_toArray, List.set_cons_zero, List.set_cons_succ, List.getElem_toArray, List.getElem_cons_zero, List.getElem_cons_succ]
          refine wpAnyH_take (i := 5) (v := ?_) rfl (by kernel_rfl) (by kernel_rfl) (by kernel_rfl) (fun _ _ _ h => h) (Or.inl ⟨by rfl, ?_⟩) hHeld ?_
          rotate_left
          · intro w hSw; (try dsimp only at hSw); first | (go_simp; done) | (go_simp; with_reducible rfl)
          try simp only [Act.put, List.setIfInBounds_toArray, List.set_cons_zero, List.set_cons_succ, List.getElem_toArray, List.getElem_cons_zero, List.getElem_cons_succ]
          refine wpAnyH_take (i := 6) (v := ?_) rfl (by kernel_rfl) (by kernel_rfl) (by kernel_rfl) (fun _ _ _ h => h) (Or.inl ⟨by rfl, ?_⟩) hHeld ?_
          rotate_left
          · intro w hSw; (try dsimp only at hSw); first | (go_simp; done) | (go_simp; with_reducible rfl)
          try simp only [Act.put, List.setIfInBounds_toArray, List.set_cons_zero, List.set_cons_succ, List.getElem_toArray, List.getElem_cons_zero, List.getElem_cons_succ]
          refine wpAnyH_take (i := 7) (v := ?_) rfl (by kernel_rfl) (by kernel_rfl) (by kernel_rfl) (fun _ _ _ h => h) (Or.inl ⟨by rfl, ?_⟩) hHeld ?_
          rotate_left
          · intro w hSw; (try dsimp only at hSw); first | (go_simp; done) | (go_simp; with_reducible rfl)
          try simp only [Act.put, List.setIfInBounds_toArray, List.set_cons_zero, List.set_cons_succ, List.getElem_toArray, List.getElem_cons_zero, List.getElem_cons_succ]
          refine wpAnyH_take (i := 9) (v := ?_) rfl (by kernel_rfl) (by kernel_rfl) (by kernel_rfl) (fun _ _ _ h => h) (Or.inl ⟨by rfl, ?_⟩) hHeld ?_
          rotate_left
          · intro w hSw; (try dsimp only at hSw); first | (go_simp; done) | (go_simp; with_reducible rfl)
          try simp only [Act.put, List.setIfInBounds_toArray, List.set_cons_zero, List.set_cons_succ, List.getElem_toArray, List.getElem_cons_zero, List.getElem_cons_succ]
          refine wpAnyH_ready (rs := [8]) (by kernel_rfl) (by simp) ?_
          refine AllReadyH.cons rfl (fun K hK => ?_) AllReadyH.nil
          go_simp
          go_wp2_with (go_at_call 24; refine (hrf _ hSd.2.2).mono ?_; rintro e wy ⟨⟨ra, rn, rc, rfl, hany⟩, hBy⟩; have hSy := hKeep _ _ hSd hBy)
          refine hK.out _ _ (hSy) (fun hHeld => ?_)
          clear hK K
          refine wpAnyH_ready (rs := [10]) (by kernel_rfl) (by simp) ?_
          refine AllReadyH.cons rfl (fun K hK => ?_) AllReadyH.nil
          go_simp
          go_wp2_with (go_at_call 27; refine (hhl _ ra rn rc hany).mono ?_; rintro e wz ⟨rfl, hBz⟩; have hSz := hKeep _ _ hSy hBz)
          refine hK.out _ _ (hSz) (fun hHeld => ?_)
          clear hK K
          refine wpAnyH_take (i := 11) (v := ?_) rfl (by kernel_rfl) (by kernel_rfl) (by kernel_rfl) (fun _ _ _ h => h) (Or.inl ⟨by rfl, ?_⟩) hHeld ?_
          rotate_left
          · intro w hSw; (try dsimp only at hSw); first | (go_simp; done) | (go_simp; with_reducible rfl)
          try simp only [Act.put, List.setIfInBounds_toArray, List.set_cons_zero, List.set_cons_succ, List.getElem_toArray, List.getElem_cons_zero, List.getElem_cons_succ]
          refine wpAnyH_done (by kernel_rfl) ?_ _
          have hE := hSz.2.2
          have hBr := HBR.out.trans (hE.mono HBR.out.size)
          have hBW := HBW.out.trans (hE.mono HBW.out.size)
          clear hHeld hSz hSy hSd hany hBy hBz hKeep hrf hhl
          cases H with
          | true =>
            have hres : catF (rlsOf l) neg ds (k : Int) 5 0 = NM := by rw [HP.out, HST.out, catF_yes (by rw [HNM.out]; exact HRL.out) HMET.out, HNM.out]
            have hnm := rName_any (i : Int) wz
            rw [HNM.out] at hnm
            have HR := Lib.hid hres
            clear hres
            go_wp2_with fail
            refine hnm.mono ?_
            rintro e w' ⟨rfl, rfl⟩
            go_wp2_with fail
            go_ret
            exact ⟨congrArg (fun x => Ending.returned (.string x)) HR.out.symm, hBW⟩
          | false =>
            have hnx : catF (rlsOf l) neg ds (k : Int) 5 0 = catF (rlsOf l) neg ds (k : Int) (5 - (i + 1)) (i + 1) := by
              rw [HP.out, HST.out]
              exact catF_nn (by rw [HNM.out]; exact HRL.out) HMET.out
            have HNX := Lib.hid hnx
            have HBRR := Lib.hid hBr
            clear hnx hBr hBW hE
            go_wp2_with fail
            go_roundg (5 - i)
            case rel => exact ⟨i + 1, by simp, by have := HG.out; have := HLT.out; omega, HLT.out, HNX.out, HBRR.out⟩
            case measure => have := HG.out; have := HLT.out; omega
    · have hiI : ¬ (i : Int) < 5 := by omega
      have hres : catF (rlsOf l) neg ds sc 5 0 = otherB := by
        rw [hp, show 5 - i = 0 by omega]
        rfl
      have HR := Lib.hid hres
      clear hres hp hg hi hlt
      go_wp2_with fail
      go_ret
      exact ⟨by rw [HR.out]; rfl, hBW⟩
end

section
open Go.RowKit Go.PlainAid

theorem RuleOn.mono {lo lo' : Nat} {w : World} {v : Value} {t : ByteArray} {rows : List (List Rl)} (h : RuleOn lo w v t rows) (hl : lo' ≤ lo) : RuleOn lo' w v t rows := by
  obtain ⟨b, f, h1, h2, h3, g, lb, h4, h5, h6⟩ := h
  exact ⟨b, f, h1, Nat.le_trans hl h2, h3, g, lb, h4, h5, fun W neg ds k hW => h6 W neg ds k (hW.mono hl)⟩
/-- A set that is being made. -/
structure NwS (w : World) (g : ByteArray → Option (List (List Rl))) (n : Nat) (W : World) : Prop where
  res : Blk W w.heap.size #[.int .i64 0, .int .i64 0]
  set : Blk W (w.heap.size + 1 + 1) #[.map (some (w.heap.size + 1))]
  map : MapIs (w.heap.size + 1 + 1) W (w.heap.size + 1) n g
  bel : Below w.heap.size w W
  ge : w.heap.size + 1 + 1 + 1 ≤ W.heap.size
theorem NwS.on {w W W' : World} {g : ByteArray → Option (List (List Rl))} {n : Nat} (h : NwS w g n W) (hB : Below W.heap.size W W') : NwS w g n W' :=
  ⟨h.res.on hB, h.set.on hB, h.map.on hB, h.bel.trans (hB.mono h.bel.size), Nat.le_trans h.ge hB.size⟩
theorem NwS.put {w W W' : World} {g g' : ByteArray → Option (List (List Rl))} {n n' : Nat} (h : NwS w g n W) (hM : MapIs (w.heap.size + 1 + 1) W' (w.heap.size + 1) n' g') (hg : W.grownBy W' (some (w.heap.size + 1))) : NwS w g' n' W' :=
  ⟨blk_grown hg h.res (fun e => by injection e; omega), blk_grown hg h.set (fun e => by injection e; omega), hM, h.bel.grown hg h.bel.size (fun k hk => by injection hk; omega), Nat.le_trans h.ge hg.size⟩
theorem NwS.zero {w W : World} {g : ByteArray → Option (List (List Rl))} {n : Nat} (h : NwS w g n W) : NwS w g n ((W.setCell ⟨w.heap.size, 0, none⟩ (.int .i64 0)).setCell ⟨w.heap.size, 1, none⟩ (.int .i64 0)) := by
  have q := (h.res.set 0 (.int .i64 0)).set 1 (.int .i64 0)
  have hup : Up (w.heap.size + 1) W ((W.setCell ⟨w.heap.size, 0, none⟩ (.int .i64 0)).setCell ⟨w.heap.size, 1, none⟩ (.int .i64 0)) := (Up.set (lo := w.heap.size + 1) ⟨w.heap.size, 0, none⟩ _ (Nat.lt_succ_self _)).trans (Up.set ⟨w.heap.size, 1, none⟩ _ (Nat.lt_succ_self _))
  refine ⟨q, (h.set.other _ _ _ (by omega)).other _ _ _ (by omega), ?_, (h.bel.setCell (p := ⟨w.heap.size, 0, none⟩) (Nat.le_refl _) _).setCell (p := ⟨w.heap.size, 1, none⟩) (Nat.le_refl _) _, by simpa using h.ge⟩
  obtain ⟨D, h1, h2⟩ := h.map
  refine ⟨D, ?_, fun s => ?_⟩
  · have hlt := h1.lt
    obtain ⟨es, clock, hb, r⟩ := h1
    exact ⟨es, clock, (hup.2 _ (Nat.le_refl _) hlt).trans hb, r⟩
  · rcases h2 s with h | ⟨b, rows, t, h3, h4, h5⟩
    · exact .inl h
    · exact .inr ⟨b, rows, t, h3, h4, h5.up (hup.mono (Nat.le_succ _))⟩
/-- What New hands back. -/
def NewEnd (w : World) (l : List Pr2) (e : Ending) (w' : World) : Prop :=
  ((∃ sv, faL l l 0 = (0, 0) ∧ AllOk l ∧ e = .returned (.tuple #[sv, .agg #[.int .i64 0, .int .i64 0]]) ∧ SetAt (w.heap.size + 1 + 1) w' sv (rlsOf l)) ∨
    ((faL l l 0).1 ≠ 0 ∧ e = .returned (.tuple #[.pointer none, .agg #[.int .i64 (faL l l 0).1, .int .i64 (faL l l 0).2]]))) ∧ Below w.heap.size w w'
theorem new_bad {w w' : World} {l : List Pr2} {a b : Int} (h : faL l l 0 = (a, b)) (ha : a ≠ 0) (hB : Below w.heap.size w w') : NewEnd w l (.returned (.tuple #[.pointer none, .agg #[.int .i64 a, .int .i64 b]])) w' :=
  ⟨.inr (by rw [h]; exact ⟨ha, rfl⟩), hB⟩
theorem six_small {KB : ByteArray} (h : Lib.containsS six KB = true) : KB.size ≤ maxLen := by
  have hm := (Lib.containsS_iff six KB).1 h
  have : ∀ x ∈ six, x.size ≤ 5 := by decide +kernel
  have := this KB hm
  unfold maxLen
  omega
theorem other_is (KB : ByteArray) : plcB KB = 5 ↔ KB = otherB := by
  constructor
  · intro h
    have : ∀ f i, plcF KB f i = 5 → nameB 5 = KB := by
      intro f
      induction f with
      | zero => intro i h; exact absurd h (by show ¬ (-1 : Int) = 5; decide)
      | succ f ih =>
        intro i h
        unfold plcF at h
        split at h
        · rename_i he
          rw [h] at he
          exact he
        · exact ih _ h
    exact (this 6 0 h).symm
  · rintro rfl
    decide +kernel

set_option maxRecDepth 100000 in
set_option maxHeartbeats 8000000 in
theorem new_any (v : Value) (l : List Pr2) (w : World) (hv : PaAt w v l) (hl : l.length ≤ 1000000) (hP : PW w) :
    Calls Tryz.prog 20 #[v] w fun e w' => NewEnd w l e w' := by
  have hmm := @run_makeMap Tryz.prog
  have hA1 := (Below.refl w.heap.size w).alloc (Nat.le_refl _) (.cells #[.int .i64 0, .int .i64 0] 42)
  have k1 := Blk.new w #[.int .i64 0, .int .i64 0] 42
  generalize hw1 : w.alloc (.cells #[.int .i64 0, .int .i64 0] 42) = w1 at *
  have z1 : w1.heap.size = w.heap.size + 1 := by rw [← hw1]; simp
  have HW1 := Lib.hid hw1
  have hA2 := (Below.refl w1.heap.size w1).alloc (Nat.le_refl _) (.map #[] 0)
  have m2 := MapIs.made (w.heap.size + 1 + 1) w1
  have k2 := k1.on hA2
  have hB2 := hA1.trans (hA2.mono hA1.size)
  rw [z1] at m2
  generalize hw2 : w1.alloc (.map #[] 0) = w2 at *
  have z2 : w2.heap.size = w.heap.size + 1 + 1 := by rw [← hw2]; simp [z1]
  have HW2 := Lib.hid hw2
  have hA3 := (Below.refl w2.heap.size w2).alloc (Nat.le_refl _) (.cells #[.map (some (w.heap.size + 1))] 67)
  have k3 := Blk.new w2 #[.map (some (w.heap.size + 1))] 67
  rw [z2] at k3
  have hN3 : NwS w (fun _ => none) 0 (w2.alloc (.cells #[.map (some (w.heap.size + 1))] 67)) := ⟨k2.on hA3, k3, m2.on hA3, hB2.trans (hA3.mono hB2.size), by simp [z2]⟩
  generalize hw3 : w2.alloc (.cells #[.map (some (w.heap.size + 1))] 67) = w3 at *
  have HW3 := Lib.hid hw3
  have HN3 := Lib.hid hN3
  obtain ⟨a, cap, rfl, hcap, hcm, hc⟩ := hv
  have HC := Lib.hid hc
  obtain ⟨n, hn⟩ : ∃ n, l.length = n := ⟨_, rfl⟩
  have HN := Lib.hid hn
  rw [hn] at hl hcap
  rw [hn]
  clear hc hn hw1 hw2 hw3 k1 k2 k3 m2 hA1 hA2 hA3 hB2 hN3 z1 z2
  go_enter Tryz.func20, Tryz.ntmps20
  go_wp2_with fail
  rw [HW1.out, HW2.out, HW3.out]
  go_loopg [14] (n + 1) (fun f s14 wx => ∃ i : Nat, s14 = .int .i64 (i : Int) ∧ f + i = n + 1 ∧ i ≤ n ∧ faL l l 0 = faL l (l.drop i) i ∧ AllOk (l.take i) ∧ NwS w (rlsOf (l.take i)) i wx)
  case atStart => exact ⟨0, rfl, rfl, Nat.zero_le _, rfl, fun p hp => absurd hp (by simp), by have := HN3.out; exact this⟩
  case round =>
    obtain ⟨i, rfl, hg, hi, hp, hok, hN⟩ := hrel
    have HG := Lib.hid hg; have HP := Lib.hid hp; have HOK := Lib.hid hok
    have hi0 : (0 : Int) ≤ i := by omega
    have f1 : IntKind.i64.wrap ((i : Int) + 1) = (i : Int) + 1 := IntWalk.i64_in _ (by omega)
    by_cases hlt : i < n
    · have hil : i < l.length := by have := HN.out; omega
      obtain ⟨g, o, rfl, hgw, c0, c1⟩ := HC.out i hil
      have hdr := List.drop_eq_getElem_cons hil
      have htk := take_snoc hil
      obtain ⟨p, hpp⟩ : ∃ p, l[i] = p := ⟨_, rfl⟩
      rw [hpp] at hdr c0 c1 htk
      have HDR := Lib.hid hdr; have HTK := Lib.hid htk
      have hiI : (i : Int) < n := by omega
      have HLT := Lib.hid hlt
      obtain ⟨KB, V⟩ := p
      simp only at c0 c1
      have c0 := cell_kept c0 hN.bel
      have c1 := cell_kept c1 hN.bel
      have hA4 := (Below.refl wr.heap.size wr).alloc (Nat.le_refl _) (.cells #[.string KB, .string V] 78)
      have kp := Blk.new wr #[.string KB, .string V] 78
      have hz4 : wr.heap.size < (wr.alloc (.cells #[.string KB, .string V] 78)).heap.size := by simp
      have hN4 := hN.on hA4
      generalize hw4 : wr.alloc (.cells #[.string KB, .string V] 78) = w4 at *
      have HW4 := Lib.hid hw4
      have his := is_any KB w4 (hP w4 hN4.bel).2
      have hpc := plc_cases KB
      clear hdr htk hpp hp hg hi hlt hgw hok hw4 hA4
      rcases is_place KB with ⟨e1, e2⟩ | ⟨e1, e2⟩
      · rw [e1] at his
        have e2 := of_decide_eq_true e2
        by_cases hoth : KB = otherB
        · have hres : faL l l 0 = (251, (i : Int)) := by rw [HP.out, HDR.out]; exact faL_cat (.inr ((other_is KB).2 hoth))
          have HR := Lib.hid hres
          have q1 : (KB.toList == [111, 116, 104, 101, 114]) = true := tl_yes hoth
          have cp := kp.cell 0
          simp at cp
          clear hres hoth e1 e2 hpc
          go_wp2_with fail
          rw [HW4.out]
          refine his.mono ?_
          rintro e w5 ⟨rfl, hB5⟩
          have hN5 := hN4.on hB5
          have cp := (kp.on hB5).cell 0
          have p0 := hN5.res.cell 0; have p1 := hN5.res.cell 1; have pf0 := hN5.res.free 0; have pf1 := hN5.res.free 1
          simp at cp p0 p1
          go_wp2_with fail
          obtain ⟨W', hW', r0, r1, hB'⟩ := fault_end hN5.res (Nat.le_refl _) hN5.bel 251 (i : Int)
          rw [hW']
          refine bodyPost_ret (v := .tuple #[.pointer none, .agg #[.int .i64 251, .int .i64 (i : Int)]]) (by simp [results, Tryz.results20, go_sem, r0, r1]) rfl (new_bad HR.out (by decide) hB')
        · have hnc : ¬ (plcB KB < 0 ∨ plcB KB = 5) := fun h => h.elim (fun h => by omega) (fun h => hoth ((other_is KB).1 h))
          have HNC := Lib.hid hnc
          have q1 : (KB.toList == [111, 116, 104, 101, 114]) = false := tl_no hoth
          have hKz := six_small e1
          have cp := kp.cell 0
          simp at cp
          clear hnc hoth e1 e2 hpc
          go_wp2_with fail
          rw [HW4.out]
          refine his.mono ?_
          rintro e w5 ⟨rfl, hB5⟩
          have hN5 := hN4.on hB5
          have kp5 := kp.on hB5
          have cp := kp5.cell 0
          simp at cp
          obtain ⟨lv, hlo, hlk⟩ := hN5.map.look KB hKz
          have hSd : (∀ j, w5.drew.cell? ⟨w.heap.size + 1 + 1, j, none⟩ = #[Value.map (some (w.heap.size + 1))][j]?) ∧ (∀ j, w5.drew.cell? ⟨wr.heap.size, j, none⟩ = #[Value.string KB, Value.string V][j]?) ∧ (Instr.lookup 65 (.map (some (w.heap.size + 1))) (.string KB) false).run Tryz.prog w5.drew = .ok lv w5.drew ∧ Below w5.heap.size w5 w5.drew :=
            ⟨(hN5.set.on (Below.refl _ _).drew).cell, (kp5.on (Below.refl _ _).drew).cell, hlk _ (Below.refl _ _).drew, (Below.refl _ _).drew⟩
          have hN5d := hN5.on (Below.refl w5.heap.size w5).drew
          have kp5d := kp5.on (Below.refl w5.heap.size w5).drew
          have hz5 : wr.heap.size < w5.drew.heap.size := Nat.lt_of_lt_of_le hz4 hB5.size
          go_upto_region 7 with fail
          clear cp his hlk
          rcases hlo with ⟨ho, rfl⟩ | ⟨rb0, rows0, t0, ho, rfl, _⟩
          · have hnf : ¬ 0 ≤ fdL KB (l.take i) 0 := fun h => by
              obtain ⟨_, _, rows, _, _, _, _, _, h2⟩ := rlsOf_some HOK.out (show ¬ fdL KB (l.take i) 0 < 0 by omega)
              rw [ho] at h2
              cases h2
            have HNF := Lib.hid hnf
            refine wp_region_held_drew (S := fun w' => (∀ j, w'.cell? ⟨w.heap.size + 1 + 1, j, none⟩ = #[Value.map (some (w.heap.size + 1))][j]?) ∧ (∀ j, w'.cell? ⟨wr.heap.size, j, none⟩ = #[Value.string KB, Value.string V][j]?) ∧ (Instr.lookup 65 (.map (some (w.heap.size + 1))) (.string KB) false).run Tryz.prog w' = .ok (Value.pointer none) w' ∧ Below w5.heap.size w5 w') (by kernel_rfl) (hSd) (fun hHeld => ?_)
            refine wpAnyH_take (i := 0) (v := ?_) rfl (by kernel_rfl) (by kernel_rfl) (by kernel_rfl) (fun _ _ _ h => h) (Or.inl ⟨by rfl, ?_⟩) hHeld ?_
            rotate_left
            · intro w hSw; (try dsimp only at hSw); first | (go_simp; done) | (go_simp; with_reducible rfl)
            try simp only [Act.put, List.setIfInBounds_toArray, List.set_cons_zero, List.set_cons_succ, List.getElem_toArray, List.getElem_cons_zero]
            refine wpAnyH_take (i := 1) (v := ?_) rfl (by kernel_rfl) (by kernel_rfl) (by kernel_rfl) (fun _ _ _ h => h) (Or.inl ⟨by rfl, ?_⟩) hHeld ?_
            rotate_left
            · intro w hSw; (try dsimp only at hSw); first | (go_simp; done) | (go_simp; with_reducible rfl)
            try simp only [Act.put, List.setIfInBounds_toArray, List.set_cons_zero, List.set_cons_succ, List.getElem_toArray, List.getElem_cons_zero, List.getElem_cons_succ]
            refine wpAnyH_take (i := 2) (v := ?_) rfl (by kernel_rfl) (by kernel_rfl) (by kernel_rfl) (fun _ _ _ h => h) (Or.inl ⟨by rfl, ?_⟩) hHeld ?_
            rotate_left
            · intro w hSw; (try dsimp only at hSw); first | (go_simp; done) | (go_simp; with_reducible rfl)
            try simp only [Act.put, List.setIfInBounds_toArray, List.set_cons_zero, List.set_cons_succ, List.getElem_toArray, List.getElem_cons_zero, List.getElem_cons_succ]
            refine wpAnyH_take (i := 3) (v := ?_) rfl (by kernel_rfl) (by kernel_rfl) (by kernel_rfl) (fun _ _ _ h => h) (Or.inl ⟨by rfl, ?_⟩) hHeld ?_
            rotate_left
            · intro w hSw; (try dsimp only at hSw); first | (go_simp; done) | (go_simp; with_reducible rfl)
            try simp only [Act.put, List.setIfInBounds_toArray, List.set_cons_zero, List.set_cons_succ, List.getElem_toArray, List.getElem_cons_zero, List.getElem_cons_succ]
            refine wpAnyH_take (i := 4) (v := ?_) rfl (by kernel_rfl) (by kernel_rfl) (by kernel_rfl) (fun _ _ _ h => h) (Or.inl ⟨by rfl, ?_⟩) hHeld ?_
            rotate_left
            · intro w hSw; (try dsimp only at hSw); first | (go_simp; done) | (go_simp; with_reducible rfl)
            try simp only [Act.put, List.setIfInBounds_toArray, List.set_cons_zero, List.set_cons_succ, List.getElem_toArray, List.getElem_cons_zero, List.getElem_cons_succ]
            refine wpAnyH_take (i := 5) (v := ?_) rfl (by kernel_rfl) (by kernel_rfl) (by kernel_rfl) (fun _ _ _ h => h) (Or.inl ⟨by rfl, ?_⟩) hHeld ?_
            rotate_left
            · intro w hSw; (try dsimp only at hSw); first | (go_simp; done) | (go_simp; with_reducible rfl)
            try simp only [Act.put, List.setIfInBounds_toArray, List.set_cons_zero, List.set_cons_succ, List.getElem_toArray, List.getElem_cons_zero, List.getElem_cons_succ]
            refine wpAnyH_take (i := 6) (v := ?_) rfl (by kernel_rfl) (by kernel_rfl) (by kernel_rfl) (fun _ _ _ h => h) (Or.inl ⟨by rfl, ?_⟩) hHeld ?_
            rotate_left
            · intro w hSw; (try dsimp only at hSw); first | (go_simp; done) | (go_simp; with_reducible rfl)
            try simp only [Act.put, List.setIfInBounds_toArray, List.set_cons_zero, List.set_cons_succ, List.getElem_toArray, List.getElem_cons_zero, List.getElem_cons_succ]
            refine wpAnyH_take (i := 7) (v := ?_) rfl (by kernel_rfl) (by kernel_rfl) (by kernel_rfl) (fun _ _ _ h => h) (Or.inl ⟨by rfl, ?_⟩) hHeld ?_
            rotate_left
            · intro w hSw; (try dsimp only at hSw); first | (go_simp; done) | (go_simp; with_reducible rfl)
            try simp only [Act.put, List.setIfInBounds_toArray, List.set_cons_zero, List.set_cons_succ, List.getElem_toArray, List.getElem_cons_zero, List.getElem_cons_succ]
            refine wpAnyH_done (by kernel_rfl) ?_ _
            clear hSd hHeld hnf ho
            generalize w5.drew = w6 at *
            have cp := kp5d.cell 1
            simp at cp
            by_cases hz : 4096 < V.size
            · have hres : faL l l 0 = (3, (i : Int)) := by rw [HP.out, HDR.out]; exact faL_long HNC.out (by have := HNF.out; simp only; omega) hz
              have HR := Lib.hid hres
              have hpa := parse_long V w6 hz
              clear hres hz
              go_wp2_with fail
              refine hpa.mono ?_
              rintro e w7 ⟨rfl, hB7⟩
              have hN7 := hN5d.on hB7
              have hA8 := (Below.refl w7.heap.size w7).alloc (Nat.le_refl _) (.cells #[.int .i64 3, .int .i64 0] 53)
              have hN8 := hN7.on hA8
              have ks := Blk.new w7 #[.int .i64 3, .int .i64 0] 53
              have hN7z := hN7.ge
              clear hpa hB7 hA8 hN7
              go_upto_region 11 with fail
              generalize w7.alloc (.cells #[.int .i64 3, .int .i64 0] 53) = w8 at *
              have ksd := ks.on (Below.refl w8.heap.size w8).drew
              have kr8d := hN8.res.on (Below.refl w8.heap.size w8).drew
              have p0 := hN8.res.cell 0; have p1 := hN8.res.cell 1; have pf0 := hN8.res.free 0; have pf1 := hN8.res.free 1; have pg0 := kr8d.free 0; have pg1 := kr8d.free 1
              simp at p0 p1
              have hSd := ksd.cell
              refine wp_region_held_drew (S := fun w' => (∀ j, w'.cell? ⟨w7.heap.size, j, none⟩ = #[Value.int .i64 3, Value.int .i64 0][j]?)) (by kernel_rfl) (hSd) (fun hHeld => ?_)
              refine wpAnyH_take (i := 0) (v := ?_) rfl (by kernel_rfl) (by kernel_rfl) (by kernel_rfl) (fun _ _ _ h => h) (Or.inl ⟨by rfl, ?_⟩) hHeld ?_
              rotate_left
              · intro w hSw; (try dsimp only at hSw); first | (go_simp; done) | (go_simp; with_reducible rfl)
              try simp only [Act.put, List.setIfInBounds_toArray, List.set_cons_zero, List.set_cons_succ, List.getElem_toArray, List.getElem_cons_zero]
              refine wpAnyH_take (i := 1) (v := ?_) rfl (by kernel_rfl) (by kernel_rfl) (by kernel_rfl) (fun _ _ _ h => h) (Or.inl ⟨by rfl, ?_⟩) hHeld ?_
              rotate_left
              · intro w hSw; (try dsimp only at hSw); first | (go_simp; done) | (go_simp; with_reducible rfl)
              try simp only [Act.put, List.setIfInBounds_toArray, List.set_cons_zero, List.set_cons_succ, List.getElem_toArray, List.getElem_cons_zero, List.getElem_cons_succ]
              refine wpAnyH_take (i := 2) (v := ?_) rfl (by kernel_rfl) (by kernel_rfl) (by kernel_rfl) (fun _ _ _ h => h) (Or.inl ⟨by rfl, ?_⟩) hHeld ?_
              rotate_left
              · intro w hSw; (try dsimp only at hSw); first | (go_simp; done) | (go_simp; with_reducible rfl)
              try simp only [Act.put, List.setIfInBounds_toArray, List.set_cons_zero, List.set_cons_succ, List.getElem_toArray, List.getElem_cons_zero, List.getElem_cons_succ]
              refine wpAnyH_take (i := 3) (v := ?_) rfl (by kernel_rfl) (by kernel_rfl) (by kernel_rfl) (fun _ _ _ h => h) (Or.inl ⟨by rfl, ?_⟩) hHeld ?_
              rotate_left
              · intro w hSw; (try dsimp only at hSw); first | (go_simp; done) | (go_simp; with_reducible rfl)
              try simp only [Act.put, List.setIfInBounds_toArray, List.set_cons_zero, List.set_cons_succ, List.getElem_toArray, List.getElem_cons_zero, List.getElem_cons_succ]
              refine wpAnyH_take (i := 4) (v := ?_) rfl (by kernel_rfl) (by kernel_rfl) (by kernel_rfl) (fun _ _ _ h => h) (Or.inl ⟨by rfl, ?_⟩) hHeld ?_
              rotate_left
              · intro w hSw; (try dsimp only at hSw); first | (go_simp; done) | (go_simp; with_reducible rfl)
              try simp only [Act.put, List.setIfInBounds_toArray, List.set_cons_zero, List.set_cons_succ, List.getElem_toArray, List.getElem_cons_zero, List.getElem_cons_succ]
              refine wpAnyH_ready (rs := [5]) (by kernel_rfl) (by simp) ?_
              refine AllReadyH.cons rfl (fun K hK => ?_) AllReadyH.nil
              go_simp
              refine hK.out _ _ (((ks.other w.heap.size 0 (.int .i64 3) (by have := hN7z; omega)).other w.heap.size 1 (.int .i64 (i : Int)) (by have := hN7z; omega)).cell) (fun hHeld => ?_)
              clear hK K
              refine wpAnyH_done (by kernel_rfl) ?_ _
              clear hHeld hSd
              go_wp2_with fail
              obtain ⟨W', hW', r0, r1, hB'⟩ := fault_end hN8.res (Nat.le_refl _) hN8.bel 3 (i : Int)
              rw [hW']
              refine bodyPost_ret (v := .tuple #[.pointer none, .agg #[.int .i64 3, .int .i64 (i : Int)]]) (by simp [results, Tryz.results20, go_sem, r0, r1]) rfl (new_bad HR.out (by decide) hB'.drew)
            · have hpa := parse_any V w6 (by omega) (hP w6 hN5d.bel).1
              have HZ := Lib.hid hz
              clear hz
              go_wp2_with fail
              refine hpa.mono ?_
              rintro e w7 ⟨h7, hB7⟩
              have hN7 := hN5d.on hB7
              cases hru : ruleP V with
              | bad q =>
                rw [hru] at h7
                have h7 : e = .returned (.tuple #[.pointer none, .agg #[.int .i64 250, .int .i64 (q : Int)]]) := h7
                subst h7
                have hres : faL l l 0 = (250, (i : Int)) := by rw [HP.out, HDR.out]; exact faL_bad HNC.out (by have := HNF.out; simp only; omega) HZ.out hru
                have HR := Lib.hid hres
                have hA8 := (Below.refl w7.heap.size w7).alloc (Nat.le_refl _) (.cells #[.int .i64 250, .int .i64 (q : Int)] 53)
                have hN8 := hN7.on hA8
                have ks := Blk.new w7 #[.int .i64 250, .int .i64 (q : Int)] 53
                have hN7z := hN7.ge
                clear hpa hB7 hA8 hN7 hres hru
                go_upto_region 11 with fail
                generalize w7.alloc (.cells #[.int .i64 250, .int .i64 (q : Int)] 53) = w8 at *
                have ksd := ks.on (Below.refl w8.heap.size w8).drew
                have kr8d := hN8.res.on (Below.refl w8.heap.size w8).drew
                have p0 := hN8.res.cell 0; have p1 := hN8.res.cell 1; have pf0 := hN8.res.free 0; have pf1 := hN8.res.free 1; have pg0 := kr8d.free 0; have pg1 := kr8d.free 1
                simp at p0 p1
                have hSd := ksd.cell
                refine wp_region_held_drew (S := fun w' => (∀ j, w'.cell? ⟨w7.heap.size, j, none⟩ = #[Value.int .i64 250, Value.int .i64 (q : Int)][j]?)) (by kernel_rfl) (hSd) (fun hHeld => ?_)
                refine wpAnyH_take (i := 0) (v := ?_) rfl (by kernel_rfl) (by kernel_rfl) (by kernel_rfl) (fun _ _ _ h => h) (Or.inl ⟨by rfl, ?_⟩) hHeld ?_
                rotate_left
                · intro w hSw; (try dsimp only at hSw); first | (go_simp; done) | (go_simp; with_reducible rfl)
                try simp only [Act.put, List.setIfInBounds_toArray, List.set_cons_zero, List.set_cons_succ, List.getElem_toArray, List.getElem_cons_zero]
                refine wpAnyH_take (i := 1) (v := ?_) rfl (by kernel_rfl) (by kernel_rfl) (by kernel_rfl) (fun _ _ _ h => h) (Or.inl ⟨by rfl, ?_⟩) hHeld ?_
                rotate_left
                · intro w hSw; (try dsimp only at hSw); first | (go_simp; done) | (go_simp; with_reducible rfl)
                try simp only [Act.put, List.setIfInBounds_toArray, List.set_cons_zero, List.set_cons_succ, List.getElem_toArray, List.getElem_cons_zero, List.getElem_cons_succ]
                refine wpAnyH_take (i := 2) (v := ?_) rfl (by kernel_rfl) (by kernel_rfl) (by kernel_rfl) (fun _ _ _ h => h) (Or.inl ⟨by rfl, ?_⟩) hHeld ?_
                rotate_left
                · intro w hSw; (try dsimp only at hSw); first | (go_simp; done) | (go_simp; with_reducible rfl)
                try simp only [Act.put, List.setIfInBounds_toArray, List.set_cons_zero, List.set_cons_succ, List.getElem_toArray, List.getElem_cons_zero, List.getElem_cons_succ]
                refine wpAnyH_take (i := 3) (v := ?_) rfl (by kernel_rfl) (by kernel_rfl) (by kernel_rfl) (fun _ _ _ h => h) (Or.inl ⟨by rfl, ?_⟩) hHeld ?_
                rotate_left
                · intro w hSw; (try dsimp only at hSw); first | (go_simp; done) | (go_simp; with_reducible rfl)
                try simp only [Act.put, List.setIfInBounds_toArray, List.set_cons_zero, List.set_cons_succ, List.getElem_toArray, List.getElem_cons_zero, List.getElem_cons_succ]
                refine wpAnyH_take (i := 4) (v := ?_) rfl (by kernel_rfl) (by kernel_rfl) (by kernel_rfl) (fun _ _ _ h => h) (Or.inl ⟨by rfl, ?_⟩) hHeld ?_
                rotate_left
                · intro w hSw; (try dsimp only at hSw); first | (go_simp; done) | (go_simp; with_reducible rfl)
                try simp only [Act.put, List.setIfInBounds_toArray, List.set_cons_zero, List.set_cons_succ, List.getElem_toArray, List.getElem_cons_zero, List.getElem_cons_succ]
                refine wpAnyH_ready (rs := [5]) (by kernel_rfl) (by simp) ?_
                refine AllReadyH.cons rfl (fun K hK => ?_) AllReadyH.nil
                go_simp
                refine hK.out _ _ (((ks.other w.heap.size 0 (.int .i64 250) (by have := hN7z; omega)).other w.heap.size 1 (.int .i64 (i : Int)) (by have := hN7z; omega)).cell) (fun hHeld => ?_)
                clear hK K
                refine wpAnyH_done (by kernel_rfl) ?_ _
                clear hHeld hSd
                go_wp2_with fail
                obtain ⟨W', hW', r0, r1, hB'⟩ := fault_end hN8.res (Nat.le_refl _) hN8.bel 250 (i : Int)
                rw [hW']
                refine bodyPost_ret (v := .tuple #[.pointer none, .agg #[.int .i64 250, .int .i64 (i : Int)]]) (by simp [results, Tryz.results20, go_sem, r0, r1]) rfl (new_bad HR.out (by decide) hB'.drew)
              | ok q rows t =>
                rw [hru] at h7
                obtain ⟨v7, h7, hr7⟩ := (show ∃ v, e = .returned (.tuple #[v, .agg #[.int .i64 0, .int .i64 0]]) ∧ RuleOn w6.heap.size w7 v t rows from h7)
                subst h7
                obtain ⟨rb, rf, rfl, _⟩ := id hr7
                have hnx : faL l l 0 = faL l (l.drop (i + 1)) (i + 1) := by rw [HP.out, HDR.out]; exact faL_ok HNC.out (by have := HNF.out; simp only; omega) HZ.out hru
                have HNX := Lib.hid hnx
                have hok2 : AllOk (l.take (i + 1)) := by rw [HTK.out]; exact HOK.out.snoc hru (by have := HZ.out; simp only; omega)
                have HOK2 := Lib.hid hok2
                have hg2 : rlsOf (l.take (i + 1)) = fun q => if q = KB then some rows else rlsOf (l.take i) q := by
                  rw [HTK.out]
                  funext q
                  exact rlsOf_snoc (p := (KB, V)) (by have := HNF.out; simp only; omega) hru q
                have HG2 := Lib.hid hg2
                have hA8 := (Below.refl w7.heap.size w7).alloc (Nat.le_refl _) (.cells #[.int .i64 0, .int .i64 0] 53)
                have hN8 := hN7.on hA8
                have kp8 := (kp5d.on hB7).on hA8
                have ks := Blk.new w7 #[.int .i64 0, .int .i64 0] 53
                have hr8 := ((hr7.mono (Nat.le_trans (Nat.le_succ _) hN5d.ge)).up (.of hA8)).up (.of (Below.refl _ _).drew)
                have hSs := ks.cell
                clear hpa hB7 hA8 hN7 hnx hok2 hg2 hru hr7
                go_upto_region 12 with fail
                generalize w7.alloc (.cells #[.int .i64 0, .int .i64 0] 53) = w8 at *
                have hN8d := hN8.on (Below.refl w8.heap.size w8).drew
                have hSd : (∀ j, w8.drew.cell? ⟨w.heap.size + 1 + 1, j, none⟩ = #[Value.map (some (w.heap.size + 1))][j]?) ∧ (∀ j, w8.drew.cell? ⟨wr.heap.size, j, none⟩ = #[Value.string KB, Value.string V][j]?) :=
                  ⟨hN8d.set.cell, (kp8.on (Below.refl _ _).drew).cell⟩
                have kp8d := kp8.on (Below.refl w8.heap.size w8).drew
                have hwk : wr.heap.size ≠ w.heap.size + 1 := by have := hN.ge; omega
                refine wp_region_held_drew (S := fun w' => (∀ j, w'.cell? ⟨w.heap.size + 1 + 1, j, none⟩ = #[Value.map (some (w.heap.size + 1))][j]?) ∧ (∀ j, w'.cell? ⟨wr.heap.size, j, none⟩ = #[Value.string KB, Value.string V][j]?)) (by kernel_rfl) (hSd) (fun hHeld => ?_)
                refine wpAnyH_take (i := 0) (v := ?_) rfl (by kernel_rfl) (by kernel_rfl) (by kernel_rfl) (fun _ _ _ h => h) (Or.inl ⟨by rfl, ?_⟩) hHeld ?_
                rotate_left
                · intro w hSw; (try dsimp only at hSw); first | (go_simp; done) | (go_simp; with_reducible rfl)
                try simp only [Act.put, List.setIfInBounds_toArray, List.set_cons_zero, List.set_cons_succ, List.getElem_toArray, List.getElem_cons_zero]
                refine wpAnyH_take (i := 1) (v := ?_) rfl (by kernel_rfl) (by kernel_rfl) (by kernel_rfl) (fun _ _ _ h => h) (Or.inl ⟨by rfl, ?_⟩) hHeld ?_
                rotate_left
                · intro w hSw; (try dsimp only at hSw); first | (go_simp; done) | (go_simp; with_reducible rfl)
                try simp only [Act.put, List.setIfInBounds_toArray, List.set_cons_zero, List.set_cons_succ, List.getElem_toArray, List.getElem_cons_zero, List.getElem_cons_succ]
                refine wpAnyH_take (i := 2) (v := ?_) rfl (by kernel_rfl) (by kernel_rfl) (by kernel_rfl) (fun _ _ _ h => h) (Or.inl ⟨by rfl, ?_⟩) hHeld ?_
                rotate_left
                · intro w hSw; (try dsimp only at hSw); first | (go_simp; done) | (go_simp; with_reducible rfl)
                try simp only [Act.put, List.setIfInBounds_toArray, List.set_cons_zero, List.set_cons_succ, List.getElem_toArray, List.getElem_cons_zero, List.getElem_cons_succ]
                refine wpAnyH_take (i := 3) (v := ?_) rfl (by kernel_rfl) (by kernel_rfl) (by kernel_rfl) (fun _ _ _ h => h) (Or.inl ⟨by rfl, ?_⟩) hHeld ?_
                rotate_left
                · intro w hSw; (try dsimp only at hSw); first | (go_simp; done) | (go_simp; with_reducible rfl)
                try simp only [Act.put, List.setIfInBounds_toArray, List.set_cons_zero, List.set_cons_succ, List.getElem_toArray, List.getElem_cons_zero, List.getElem_cons_succ]
                refine wpAnyH_take (i := 4) (v := ?_) rfl (by kernel_rfl) (by kernel_rfl) (by kernel_rfl) (fun _ _ _ h => h) (Or.inl ⟨by rfl, ?_⟩) hHeld ?_
                rotate_left
                · intro w hSw; (try dsimp only at hSw); first | (go_simp; done) | (go_simp; with_reducible rfl)
                try simp only [Act.put, List.setIfInBounds_toArray, List.set_cons_zero, List.set_cons_succ, List.getElem_toArray, List.getElem_cons_zero, List.getElem_cons_succ]
                refine wpAnyH_take (i := 5) (v := ?_) rfl (by kernel_rfl) (by kernel_rfl) (by kernel_rfl) (fun _ _ _ h => h) (Or.inl ⟨by rfl, ?_⟩) hHeld ?_
                rotate_left
                · intro w hSw; (try dsimp only at hSw); first | (go_simp; done) | (go_simp; with_reducible rfl)
                try simp only [Act.put, List.setIfInBounds_toArray, List.set_cons_zero, List.set_cons_succ, List.getElem_toArray, List.getElem_cons_zero, List.getElem_cons_succ]
                refine wpAnyH_take (i := 6) (v := ?_) rfl (by kernel_rfl) (by kernel_rfl) (by kernel_rfl) (fun _ _ _ h => h) (Or.inl ⟨by rfl, ?_⟩) hHeld ?_
                rotate_left
                · intro w hSw; (try dsimp only at hSw); first | (go_simp; done) | (go_simp; with_reducible rfl)
                try simp only [Act.put, List.setIfInBounds_toArray, List.set_cons_zero, List.set_cons_succ, List.getElem_toArray, List.getElem_cons_zero, List.getElem_cons_succ]
                refine wpAnyH_ready (rs := [7]) (by kernel_rfl) (by simp) ?_
                refine AllReadyH.cons rfl (fun K hK => ?_) AllReadyH.nil
                (refine step_put rfl _ _ _ rfl hN8d.map (Nat.lt_succ_self _) rfl KB rfl hKz rb rows t rfl hr8 (by have := HLT.out; omega) ?_; intro w9 hM9 hg9; have hN9 := hN8d.put hM9 hg9; have hS9 : (∀ j, w9.cell? ⟨w.heap.size + 1 + 1, j, none⟩ = #[Value.map (some (w.heap.size + 1))][j]?) ∧ (∀ j, w9.cell? ⟨wr.heap.size, j, none⟩ = #[Value.string KB, Value.string V][j]?) := ⟨hN9.set.cell, (blk_grown hg9 kp8d (fun e => hwk (by injection e with e; exact e.symm))).cell⟩)
                refine hK.out _ _ (hS9) (fun hHeld => ?_)
                clear hK K
                refine wpAnyH_done (by kernel_rfl) ?_ _
                have HN9 := hN9
                clear hHeld hSd hSs hS9
                go_wp2_with fail
                go_roundg (n - i)
                case rel => exact ⟨i + 1, by simp, by have := HG.out; have := HLT.out; omega, HLT.out, HNX.out, HOK2.out, by rw [HG2.out]; exact HN9⟩
                case measure => have := HG.out; have := HLT.out; omega
          · have hnf : 0 ≤ fdL KB (l.take i) 0 := by
              by_cases h : fdL KB (l.take i) 0 < 0
              · rw [rlsOf_none h] at ho
                cases ho
              · omega
            have hres : faL l l 0 = (211, (i : Int)) := by rw [HP.out, HDR.out]; exact faL_again HNC.out hnf
            have HR := Lib.hid hres
            clear hnf hres ho
            refine wp_region_held_drew (S := fun w' => (∀ j, w'.cell? ⟨w.heap.size + 1 + 1, j, none⟩ = #[Value.map (some (w.heap.size + 1))][j]?) ∧ (∀ j, w'.cell? ⟨wr.heap.size, j, none⟩ = #[Value.string KB, Value.string V][j]?) ∧ (Instr.lookup 65 (.map (some (w.heap.size + 1))) (.string KB) false).run Tryz.prog w' = .ok (Value.pointer (some ⟨rb0, 0, none⟩)) w' ∧ Below w5.heap.size w5 w') (by kernel_rfl) (hSd) (fun hHeld => ?_)
            refine wpAnyH_take (i := 0) (v := ?_) rfl (by kernel_rfl) (by kernel_rfl) (by kernel_rfl) (fun _ _ _ h => h) (Or.inl ⟨by rfl, ?_⟩) hHeld ?_
            rotate_left
            · intro w hSw; (try dsimp only at hSw); first | (go_simp; done) | (go_simp; with_reducible rfl)
            try simp only [Act.put, List.setIfInBounds_toArray, List.set_cons_zero, List.set_cons_succ, List.getElem_toArray, List.getElem_cons_zero]
            refine wpAnyH_take (i := 1) (v := ?_) rfl (by kernel_rfl) (by kernel_rfl) (by kernel_rfl) (fun _ _ _ h => h) (Or.inl ⟨by rfl, ?_⟩) hHeld ?_
            rotate_left
            · intro w hSw; (try dsimp only at hSw); first | (go_simp; done) | (go_simp; with_reducible rfl)
            try simp only [Act.put, List.setIfInBounds_toArray, List.set_cons_zero, List.set_cons_succ, List.getElem_toArray, List.getElem_cons_zero, List.getElem_cons_succ]
            refine wpAnyH_take (i := 2) (v := ?_) rfl (by kernel_rfl) (by kernel_rfl) (by kernel_rfl) (fun _ _ _ h => h) (Or.inl ⟨by rfl, ?_⟩) hHeld ?_
            rotate_left
            · intro w hSw; (try dsimp only at hSw); first | (go_simp; done) | (go_simp; with_reducible rfl)
            try simp only [Act.put, List.setIfInBounds_toArray, List.set_cons_zero, List.set_cons_succ, List.getElem_toArray, List.getElem_cons_zero, List.getElem_cons_succ]
            refine wpAnyH_take (i := 3) (v := ?_) rfl (by kernel_rfl) (by kernel_rfl) (by kernel_rfl) (fun _ _ _ h => h) (Or.inl ⟨by rfl, ?_⟩) hHeld ?_
            rotate_left
            · intro w hSw; (try dsimp only at hSw); first | (go_simp; done) | (go_simp; with_reducible rfl)
            try simp only [Act.put, List.setIfInBounds_toArray, List.set_cons_zero, List.set_cons_succ, List.getElem_toArray, List.getElem_cons_zero, List.getElem_cons_succ]
            refine wpAnyH_take (i := 4) (v := ?_) rfl (by kernel_rfl) (by kernel_rfl) (by kernel_rfl) (fun _ _ _ h => h) (Or.inl ⟨by rfl, ?_⟩) hHeld ?_
            rotate_left
            · intro w hSw; (try dsimp only at hSw); first | (go_simp; done) | (go_simp; with_reducible rfl)
            try simp only [Act.put, List.setIfInBounds_toArray, List.set_cons_zero, List.set_cons_succ, List.getElem_toArray, List.getElem_cons_zero, List.getElem_cons_succ]
            refine wpAnyH_take (i := 5) (v := ?_) rfl (by kernel_rfl) (by kernel_rfl) (by kernel_rfl) (fun _ _ _ h => h) (Or.inl ⟨by rfl, ?_⟩) hHeld ?_
            rotate_left
            · intro w hSw; (try dsimp only at hSw); first | (go_simp; done) | (go_simp; with_reducible rfl)
            try simp only [Act.put, List.setIfInBounds_toArray, List.set_cons_zero, List.set_cons_succ, List.getElem_toArray, List.getElem_cons_zero, List.getElem_cons_succ]
            refine wpAnyH_take (i := 6) (v := ?_) rfl (by kernel_rfl) (by kernel_rfl) (by kernel_rfl) (fun _ _ _ h => h) (Or.inl ⟨by rfl, ?_⟩) hHeld ?_
            rotate_left
            · intro w hSw; (try dsimp only at hSw); first | (go_simp; done) | (go_simp; with_reducible rfl)
            try simp only [Act.put, List.setIfInBounds_toArray, List.set_cons_zero, List.set_cons_succ, List.getElem_toArray, List.getElem_cons_zero, List.getElem_cons_succ]
            refine wpAnyH_take (i := 7) (v := ?_) rfl (by kernel_rfl) (by kernel_rfl) (by kernel_rfl) (fun _ _ _ h => h) (Or.inl ⟨by rfl, ?_⟩) hHeld ?_
            rotate_left
            · intro w hSw; (try dsimp only at hSw); first | (go_simp; done) | (go_simp; with_reducible rfl)
            try simp only [Act.put, List.setIfInBounds_toArray, List.set_cons_zero, List.set_cons_succ, List.getElem_toArray, List.getElem_cons_zero, List.getElem_cons_succ]
            refine wpAnyH_done (by kernel_rfl) ?_ _
            clear hSd hHeld
            generalize w5.drew = w6 at *
            have p0 := hN5d.res.cell 0; have p1 := hN5d.res.cell 1; have pf0 := hN5d.res.free 0; have pf1 := hN5d.res.free 1
            simp at p0 p1
            go_wp2_with fail
            obtain ⟨W', hW', r0, r1, hB'⟩ := fault_end hN5d.res (Nat.le_refl _) hN5d.bel 211 (i : Int)
            rw [hW']
            refine bodyPost_ret (v := .tuple #[.pointer none, .agg #[.int .i64 211, .int .i64 (i : Int)]]) (by simp [results, Tryz.results20, go_sem, r0, r1]) rfl (new_bad HR.out (by decide) hB')
      · rw [e1] at his
        have e2 := of_decide_eq_false e2
        have hres : faL l l 0 = (251, (i : Int)) := by rw [HP.out, HDR.out]; exact faL_cat (.inl (by show plcB KB < 0; omega))
        have HR := Lib.hid hres
        have cp := kp.cell 0
        simp at cp
        clear hres e1 e2 hpc
        go_wp2_with fail
        rw [HW4.out]
        refine his.mono ?_
        rintro e w5 ⟨rfl, hB5⟩
        have hN5 := hN4.on hB5
        have p0 := hN5.res.cell 0; have p1 := hN5.res.cell 1; have pf0 := hN5.res.free 0; have pf1 := hN5.res.free 1
        simp at p0 p1
        go_wp2_with fail
        obtain ⟨W', hW', r0, r1, hB'⟩ := fault_end hN5.res (Nat.le_refl _) hN5.bel 251 (i : Int)
        rw [hW']
        refine bodyPost_ret (v := .tuple #[.pointer none, .agg #[.int .i64 251, .int .i64 (i : Int)]]) (by simp [results, Tryz.results20, go_sem, r0, r1]) rfl (new_bad HR.out (by decide) hB')
    · have hiI : ¬ (i : Int) < n := by omega
      have hin : i = n := by omega
      have hres : faL l l 0 = (0, 0) := by
        rw [hp, List.drop_eq_nil_of_le (by have := HN.out; omega)]
        rfl
      have htk : l.take i = l := List.take_of_length_le (by have := HN.out; omega)
      rw [htk] at hN hok
      have HR := Lib.hid hres; have HOKL := Lib.hid hok
      have p0 := hN.res.cell 0; have p1 := hN.res.cell 1; have pf0 := hN.res.free 0; have pf1 := hN.res.free 1
      simp at p0 p1
      clear hres hp hg hi hlt htk hok hin
      go_wp2_with fail
      have hN' : NwS w (rlsOf l) i ((wr.setCell ⟨w.heap.size, 0, none⟩ (.int .i64 0)).setCell ⟨w.heap.size, 1, none⟩ (.int .i64 0)) := hN.zero
      have r0 := hN'.res.cell 0; have r1 := hN'.res.cell 1
      simp at r0 r1
      refine bodyPost_ret (v := .tuple #[.pointer (some ⟨w.heap.size + 1 + 1, 0, none⟩), .agg #[.int .i64 0, .int .i64 0]]) (by simp [results, Tryz.results20, go_sem, r0, r1]) rfl ⟨.inl ⟨_, HR.out, HOKL.out, rfl, _, _, _, rfl, hN'.set, hN'.map⟩, hN'.bel⟩
end

section
open Go.RowKit Go.PlainAid

theorem rowsIn_wide {n : Nat} {P : Program} {l : Nat} {row : String} {args : Array Value} {w : World} {R : Value → World → Prop} (h : Rows P row args w R) : RowsIn (Fence.wide.inRound l) n P row args w R :=
  fun c cs _ => let ⟨v, w', r, s⟩ := h c cs; ⟨v, w', r, stepsIn_wide.2 s⟩
theorem uponIn_of_upon {P : Program} {o : Oper} {a : Act} {next : Act → World → Prop} {Q : Exit → Act → World → Prop} {l n : Nat} : ∀ r, o.upon P a next Q r → o.uponIn (Fence.wide.inRound l) n P a next Q r
  | .ok (.value _) _, h => h
  | .ok .skip _, h => h
  | .ok (.defer _) _, h => h
  | .ok (.enter _ _) _, h => ⟨(fun e => by cases e), CallsIn.inRound l (callsIn_wide.2 (Calls.mono h fun e _ h => by cases e <;> exact h))⟩
  | .ok (.row _ _) _, h => ⟨(fun e => by cases e), rowsIn_wide h⟩
  | .ok (.round _ _ _ _ _) _, h => h.elim
  | .halt (.panic _) _, h => h
theorem wpOpIn_of_wpOp {P : Program} {ops : Array Oper} {Q : Exit → Act → World → Prop} {l n i : Nat} {K K' : Act → World → Prop} (hd : ∀ (j : Nat) o c, ops[j]? = some o → o.op ≠ .defer c) (hQ : ¬ LetsOut Q) (hK : ∀ a w, K a w → K' a w) {a : Act} {w : World}
    (h : wpOp P ops Q i K a w) : wpOpIn (Fence.wide.inRound l) n P ops Q i K' a w := by
  unfold wpOp at h
  unfold Go.wpOpIn
  cases ho : ops[i]? with
  | none =>
    rw [ho] at h
    exact hK _ _ h
  | some o =>
    rw [ho] at h
    simp only at h ⊢
    split at h
    · rename_i hw
      rw [if_pos hw]
      rcases h with h | h
      · refine ⟨fun _ _ => trivial, ?_⟩
        show o.uponIn (Fence.wide.inRound l) n P a K' Q ((Oper.semAt (some l) a.eval o).run P w)
        rw [Oper.semAt_some l _ _ (fun c => hd i o c ho)]
        exact uponIn_of_upon _ (Oper.wp_mono hK h)
      · exact absurd h.2 hQ
    · rename_i hw
      rw [if_neg hw]
      exact ⟨fun _ _ => trivial, hK _ _ h⟩
theorem wpAnyIn_of_wpAny {P : Program} {md : Region.Mode} {ops : Array Oper} {Q : Exit → Act → World → Prop} {l n : Nat} (hd : ∀ (j : Nat) o c, ops[j]? = some o → o.op ≠ .defer c) (hQ : ¬ LetsOut Q) :
    ∀ (fuel : Nat) (listed : Array Bool) (a : Act) (w : World), wpAny P md ops Q fuel listed a w → wpAnyIn (Fence.wide.inRound l) n P md ops Q fuel listed a w
  | 0, _, _, _, h => h
  | fuel + 1, _, _, _, h => ⟨h.1, fun i hi => wpOpIn_of_wpOp hd hQ (wpAnyIn_of_wpAny hd hQ fuel _) (h.2 i hi)⟩
def noDefer (ops : Array Oper) : Bool := ops.all fun o => match o.op with
  | .defer _ => false
  | _ => true
theorem noDefer_spec {ops : Array Oper} (h : noDefer ops = true) (j : Nat) (o : Oper) (c : _) (ho : ops[j]? = some o) : o.op ≠ .defer c := by
  unfold noDefer at h
  obtain ⟨hj, rfl⟩ := Array.getElem?_eq_some_iff.1 ho
  have := Array.all_eq_true.1 h j hj
  intro e
  rw [e] at this
  cases this
/-- As wp_region_held_drew, inside a round. -/
theorem wpIn_region_held_drew {P : Program} {ops : Array Oper} {Q : Exit → Act → World → Prop} {S : World → Prop} {l n : Nat} {id : Nat} {a : Act} {w : World} (hd : noDefer ops = true) (hQ : ¬ LetsOut Q) (hm : P.follows .mixedOrders = true) (hS : S w.drew)
    (h : S w.drew → wpAnyH P .any ops Q S ops.size (Array.replicate ops.size false) a w.drew) : (Code.region id ops true).wpIn (Fence.wide.inRound l) n P Q a w :=
  wpIn_region_any hm (wpAnyIn_of_wpAny (noDefer_spec hd) hQ _ _ _ _ (wpAny_of_held _ _ _ _ (h hS)))
theorem keeps_below {W W' : World} (h : Below W.heap.size W W') : KeepsOthers W W' := ⟨h.size, fun k _ hk _ => (h.block k (Array.getElem?_eq_some_iff.1 hk).1).trans hk⟩
end

section
open Go.RowKit Go.Shelf Go.PlainAid
attribute [local go_sem] Oper.semAt_some

/-- What has come when k rounds are over. -/
def upG {α : Type} (d : α) (zs : List α) (k : Nat) : List α := (List.range k).map (fun j => zs[j]?.getD d)
theorem upG_succ {α : Type} (d : α) (zs : List α) (k : Nat) : upG d zs (k + 1) = upG d zs k ++ [zs[k]?.getD d] := by simp [upG, List.range_succ]
theorem upG_length {α : Type} (d : α) (zs : List α) (k : Nat) : (upG d zs k).length = k := by simp [upG]
theorem upG_take {α : Type} (d : α) (zs : List α) {k : Nat} (hk : k ≤ zs.length) : upG d zs k = zs.take k := by
  apply List.ext_getElem
  · simp [upG, hk]
  · intro i h1 h2
    have : i < zs.length := by simp [upG] at h1; omega
    simp [upG, this]

set_option maxRecDepth 100000 in
set_option maxHeartbeats 2000000 in
theorem vals2_in {α : Type} (val : α → ByteArray) (d : α) (n : Nat) (hn : 1 ≤ n) (l Bs b cap : Nat) (zs : List α) (hz : zs.length ≤ 1000) (Kp : World → World → Prop) (hKc : ∀ A B j, Kp A B → B.cell? ⟨b, j, none⟩ = A.cell? ⟨b, j, none⟩) (J Jx : List α → World → Prop)
    (hY : ∀ pre x W, J pre W → pre.length < zs.length → YieldAt Fence.wide (n - 1) Tryz.prog l #[.string (val x)] W fun e W' =>
      (e = .returned (.bool true) ∧ J (pre ++ [x]) W' ∧ Kp W W') ∨ (e = .returned (.bool false) ∧ Jx (pre ++ [x]) W'))
    (W : World) (hBs : W.cell? ⟨Bs, 0, none⟩ = some (.slice (some ⟨b, 0, none⟩) zs.length cap)) (hc : ∀ j, j < zs.length → W.cell? ⟨b, j, none⟩ = some (.string (val (zs[j]?.getD d)))) (h0 : J [] W) :
    CallsIn Fence.wide n Tryz.prog 51 #[.func (.yield l) #[] #[], .pointer (some ⟨Bs, 0, none⟩)] W fun e W' => (∃ v, e = .returned v) ∧
      ((∃ ys, ys = zs ∧ J ys W') ∨ (∃ pre, pre <+: zs ∧ Jx pre W')) := by
  refine callsIn_of_wp Tryz.func51 rfl trivial ?_ rfl
  simp only [Tryz.ntmps51, List.size_toArray, List.length_cons, List.length_nil, Nat.reduceAdd, Nat.reduceSub, Array.replicate_succ, Array.replicate_zero, List.push_toArray, List.append_toArray, List.nil_append, List.cons_append]
  gi_wp2
  gi_loopw [7] (fun i wr => ∃ k : Nat, k ≤ zs.length ∧ i = .int .i64 k ∧ J (upG d zs k) wr ∧ ∀ j, wr.cell? ⟨b, j, none⟩ = W.cell? ⟨b, j, none⟩)
    (fun i _ => zs.length - (intOf i).toNat)
  case atStart => exact ⟨0, Nat.zero_le _, rfl, h0, fun _ => rfl⟩
  case round =>
    obtain ⟨k, hk, rfl, hJs, hnx⟩ := hrel
    have hcx : k < zs.length → wr.cell? ⟨b, k, none⟩ = some (.string (val (zs[k]?.getD d))) := fun h => (hnx k).trans (hc k h)
    by_cases hlt : k < zs.length
    · obtain ⟨fn, tmps, assign, body, hy, hR⟩ := hY _ (zs[k]?.getD d) wr hJs (by rw [upG_length]; exact hlt)
      have hcx' := hcx hlt
      have hst := upG_succ d zs k
      have HST := Lib.hid hst
      generalize zs[k]?.getD d = Z at *
      have HNX := Lib.hid hnx
      clear hst hcx hnx
      gi_wp2
      refine hR.mono ?_
      rintro e W3 (⟨rfl, hJ3, hk3⟩ | ⟨rfl, hJx3⟩)
      · gi_wp2
        go_roundw
        case rel => exact ⟨k + 1, by omega, by simp, by rw [HST.out]; exact hJ3, fun j => (hKc _ _ j hk3).trans (HNX.out j)⟩
        case measure => simp [intOf]; omega
      · gi_wp2
        refine bodyPost_ret (results_none rfl _ _ _) rfl ?_
        exact ⟨⟨_, rfl⟩, .inr ⟨_, by rw [← HST.out, upG_take d zs (by omega)]; exact List.take_prefix _ _, hJx3⟩⟩
    · obtain rfl : k = zs.length := by omega
      clear hcx hnx
      gi_wp2
      go_end0
      exact ⟨⟨_, rfl⟩, .inl ⟨_, by rw [upG_take d zs (Nat.le_refl _), List.take_length], hJs⟩⟩

/-- The six, as such. -/
abbrev Six := { x : ByteArray // x ∈ six }
def sixL : List Six := six.attach
theorem sixL_map : sixL.map (fun x => x.1) = six := by simp [sixL]
theorem sixL_len : sixL.length = 6 := by
  rw [← List.length_map (f := fun x : Six => x.1), sixL_map]
  rfl
def six0 : Six := ⟨⟨#[122, 101, 114, 111]⟩, by unfold six; exact List.Mem.head _⟩
theorem cats_stops2 (n : Nat) (hn : 1 ≤ n) (w W0 : World) (hB : Below (w.heap.size + 2) (catW w) W0) (Kp : World → World → Prop) (hKc : ∀ A B j, Kp A B → B.cell? ⟨w.heap.size, j, none⟩ = A.cell? ⟨w.heap.size, j, none⟩) :
    SeqStopsK Fence.wide n Tryz.prog 51 #[.pointer (some ⟨w.heap.size + 1, 0, none⟩)] (fun x : Six => #[Value.string x.1]) Kp (fun ys => ys = sixL) (fun pre => pre <+: sixL) 6 W0 := fun l J Jx W hW _ _ hY h0 => by
  have hB2 : Below (w.heap.size + 2) (catW w) W := hB.trans (hW.mono (by have := hB.size; rw [catW_size] at this; exact this))
  have k1 : Blk (w.alloc (.cells (six.map Value.string).toArray 9)) w.heap.size (six.map Value.string).toArray := Blk.new w (six.map Value.string).toArray 9
  have k2 : Blk (catW w) (w.heap.size + 1) #[.slice (some ⟨w.heap.size, 0, none⟩) 6 6] := by
    have := Blk.new (w.alloc (.cells (six.map Value.string).toArray 9)) #[.slice (some ⟨w.heap.size, 0, none⟩) 6 6] 31
    rw [World.size_alloc] at this
    exact this
  have k3 : Blk (catW w) w.heap.size (six.map Value.string).toArray := k1.on ((Below.refl _ _).alloc (Nat.le_refl _) _)
  have c1 : W.cell? ⟨w.heap.size + 1, 0, none⟩ = some (.slice (some ⟨w.heap.size, 0, none⟩) sixL.length 6) := by
    rw [sixL_len]
    exact (hB2.cell (p := ⟨w.heap.size + 1, 0, none⟩) (by show w.heap.size + 1 < _; omega)).trans (by rw [k2.cell 0]; rfl)
  refine vals2_in (fun x : Six => x.1) six0 n hn l (w.heap.size + 1) w.heap.size 6 sixL (by rw [sixL_len]; decide) Kp hKc J Jx (by rw [sixL_len]; exact hY) W c1 (fun j hj => ?_) h0
  refine (hB2.cell (p := ⟨w.heap.size, j, none⟩) (by show w.heap.size < _; omega)).trans ?_
  rw [k3.cell j]
  have hj6 : j < six.length := by rw [sixL_len] at hj; exact hj
  have e1 : sixL[j]?.getD six0 = sixL[j] := by rw [List.getElem?_eq_getElem hj]; rfl
  rw [e1]
  have e2 : (sixL[j]).1 = six[j] := by simp [sixL]
  rw [e2, List.getElem?_toArray, List.getElem?_map, List.getElem?_eq_getElem hj6]
  rfl
theorem six_len {x : ByteArray} (h : x ∈ six) : x.size ≤ maxLen := by
  have : ∀ x ∈ six, x.size ≤ 5 := by decide +kernel
  have := this x h
  unfold maxLen
  omega
/-- A function that leaves with nothing but marks among its deferred calls. -/
theorem leaves_marksR {F : Fence} {n : Nat} {P : Program} {fn : Func} {tmps : Array Value} {R : Ending → World → Prop} {w0 : World} :
    ∀ (Ds : List Nat) (w : World), (∀ D ∈ Ds, w0.heap.size ≤ D ∧ w.heap[D]? = some (.deferred (some []))) → Ds.Nodup →
      (∀ w', Below w0.heap.size w w' → (∀ k, k ∉ Ds → w'.heap[k]? = w.heap[k]?) → LeavesIn F n P fn tmps R [] .returning w') →
      LeavesInM F n P fn tmps R (Ds.map fun D => { target := .collected D, args := #[] }) .returning w
  | [], w, _, _, h => h w (Below.refl _ _) (fun _ _ => rfl)
  | D :: Ds, w, hD, hN, h => by
    obtain ⟨hlt, hd⟩ := hD D (by simp)
    have hn := List.nodup_cons.1 hN
    have hb1 : Below w0.heap.size w (w.putObj D (.deferred none)) := belowK_b (w := w0) (Nat.le_refl _) w D _ _ hlt hd rfl rfl
    refine ⟨by simp, .inl ⟨_, _, rfl, run_takeDeferred hd, leaves_marksR Ds _ (fun E hE => ⟨(hD E (by simp [hE])).1, ?_⟩) hn.2 (fun w' hb hk => h w' (hb1.trans hb) (fun k hk' => ?_))⟩⟩
    · rw [World.putObj_heap_other (by rintro rfl; exact hn.1 hE)]
      exact (hD E (by simp [hE])).2
    · rw [hk k (fun h' => hk' (by simp [h'])), World.putObj_heap_other (by rintro rfl; exact hk' (by simp))]
theorem KeepX.on {N x : Nat} {a w w' : World} (h : KeepX N x a w) (hB : Below w.heap.size w w') (hN : N ≤ a.heap.size) : KeepX N x a w' :=
  h.trans (KeepX.of hB (Nat.le_trans hN h.size))
/-- The first category whose rule holds; else other. -/
def catS (hit : ByteArray → Bool) : ByteArray := (six.find? hit).getD otherB
theorem catS_none {hit : ByteArray → Bool} (h : ∀ c ∈ sixL, hit c.1 = false) : catS hit = otherB := by
  unfold catS
  have : six.find? hit = none := by
    rw [List.find?_eq_none]
    intro x hx
    have := h ⟨x, hx⟩ (by simp [sixL])
    simpa using this
  rw [this]
  rfl
theorem find_first {hit : ByteArray → Bool} {L A B : List ByteArray} {y : ByteArray} (e : L = A ++ y :: B) (h : ∀ c ∈ A, hit c = false) (hy : hit y = true) : L.find? hit = some y := by
  rw [e, List.find?_append]
  have : A.find? hit = none := by
    rw [List.find?_eq_none]
    intro x hx
    simpa using h x hx
  rw [this]
  simp [hy]
theorem catS_some {hit : ByteArray → Bool} {p : List Six} {y : Six} (hp : p ++ [y] <+: sixL) (h : ∀ c ∈ p, hit c.1 = false) (hy : hit y.1 = true) : catS hit = y.1 := by
  obtain ⟨r, hr⟩ := hp
  have e : six = p.map (fun x => x.1) ++ y.1 :: r.map (fun x => x.1) := by
    have h := congrArg (List.map (fun x : Six => x.1)) hr
    rw [sixL_map] at h
    refine h.symm.trans ?_
    simp
  unfold catS
  rw [find_first e (fun c hc => by obtain ⟨d, hd, rfl⟩ := List.mem_map.1 hc; exact h d hd) hy]
  rfl

set_option maxRecDepth 100000 in
set_option maxHeartbeats 4000000 in
theorem setCat_any {lo : Nat} {g : ByteArray → Option (List (List Rl))} (v : Value) (neg : Bool) (ds : ByteArray) (sc : Int) (w : World) (hv : SetAt lo w v g) (hw : PW w) :
    Calls Tryz.prog 19 #[v, .agg #[.bool neg, .string ds, .int .i64 sc]] w fun e w' => e = .returned (.string (catS (hitG g neg ds sc))) ∧ Below w.heap.size w w' := by
  obtain ⟨sb, mb, n, rfl, hsb, hmb⟩ := hv
  have hA0 := (((Below.refl w.heap.size w).alloc (Nat.le_refl _) (.cells #[.pointer (some ⟨sb, 0, none⟩)] 30)).alloc (by simp) (.cells #[.bool neg, .string ds, .int .i64 sc] 23)).alloc (by simp; omega) (.cells #[.string ⟨#[]⟩] 9)
  have bS0 := ((Boxed.new w 30 (.pointer (some ⟨sb, 0, none⟩))).alloc (.cells #[.bool neg, .string ds, .int .i64 sc] 23)).alloc (.cells #[.string ⟨#[]⟩] 9)
  have kD0 := (Blk.new (w.alloc (.cells #[.pointer (some ⟨sb, 0, none⟩)] 30)) #[.bool neg, .string ds, .int .i64 sc] 23).on ((Below.refl _ _).alloc (Nat.le_refl _) (.cells #[.string ⟨#[]⟩] 9))
  have bR0 := Boxed.new ((w.alloc (.cells #[.pointer (some ⟨sb, 0, none⟩)] 30)).alloc (.cells #[.bool neg, .string ds, .int .i64 sc] 23)) 9 (.string ⟨#[]⟩)
  have z0 : (((w.alloc (.cells #[.pointer (some ⟨sb, 0, none⟩)] 30)).alloc (.cells #[.bool neg, .string ds, .int .i64 sc] 23)).alloc (.cells #[.string ⟨#[]⟩] 9)).heap.size = w.heap.size + 1 + 1 + 1 := by simp
  rw [World.size_alloc] at kD0
  rw [World.size_alloc, World.size_alloc] at bR0
  generalize hw0 : ((w.alloc (.cells #[.pointer (some ⟨sb, 0, none⟩)] 30)).alloc (.cells #[.bool neg, .string ds, .int .i64 sc] 23)).alloc (.cells #[.string ⟨#[]⟩] 9) = w0 at *
  have HW0 := Lib.hid hw0
  have hca := cats_any w0 (hw w0 hA0).2
  have Z0 := Lib.hid z0
  clear hw0
  refine (callsIn_wide (n := 3)).1 ?_
  refine callsIn_of_wp_marks Tryz.func19 rfl trivial ?_ rfl
  simp only [Tryz.ntmps19, List.size_toArray, List.length_cons, List.length_nil, Nat.reduceAdd, Nat.reduceSub, Array.replicate_succ, Array.replicate_zero, List.push_toArray, List.append_toArray, List.nil_append, List.cons_append]
  have cS := bS0.cell
  gi_wp2_with fail
  rw [HW0.out]
  refine ⟨trivial, ?_⟩
  refine (callsIn_wide.2 hca).mono ?_
  rintro e w1 ⟨rfl, rfl⟩
  have bS := boxed_on bS0 (catW_below w0)
  have kD := kD0.on (catW_below w0)
  have bR := boxed_on bR0 (catW_below w0)
  have zc := catW_size w0
  have hAc := hA0.trans ((catW_below w0).mono hA0.size)
  have hst := cats_stops2 (3 - 1) (by decide) w0 (catW w0) (Below.refl _ _) (KeepX (w.heap.size + 1 + 1 + 1 + 2) (w.heap.size + 1 + 1)) (fun A B j h => h.cell (by rw [Z0.out]; omega) (by rw [Z0.out]; omega))
  rw [Z0.out] at zc
  generalize catW w0 = wc at *
  have ZC := Lib.hid zc
  clear bS0 kD0 bR0 hca cS zc z0
  gi_wp2_with fail
  have hsz := ZC.out
  refine rangeFU rfl (by decide) (gf := 51) (lb := #[.pointer (some ⟨w0.heap.size + 1, 0, none⟩)]) rfl trivial (enters_of Tryz.func51 (by kernel_rfl) rfl)
    hst KeepX.trans (keepX_b (by omega)) (Below.refl _ _) (fun _ => rfl)
    (fun pre W => (∀ c ∈ pre, hitG g neg ds sc c.1 = false) ∧ Boxed W (w.heap.size + 1 + 1) 9 (.string ⟨#[]⟩) ∧ KeepX (w.heap.size + 1 + 1 + 1 + 2) (w.heap.size + 1 + 1) wc W)
    (fun c pre W => ∃ y : Six, (c = .ret ∧ ∃ p, pre = p ++ [y] ∧ (∀ c ∈ p, hitG g neg ds sc c.1 = false) ∧ hitG g neg ds sc y.1 = true) ∧ Boxed W (w.heap.size + 1 + 1) 9 (.string y.1) ∧ KeepX (w.heap.size + 1 + 1 + 1 + 2) (w.heap.size + 1 + 1) wc W)
    (OwnFrom.and (ownFrom_pure _ _) (OwnFrom.and (Own.from (boxed_own _ _ _) _) (ownFrom_keepX (by omega) (by omega))))
    (fun c pre A B row ⟨y, h1, h2⟩ hg hr => ⟨y, h1, (OwnFrom.and (Own.from (boxed_own _ _ (fun _ : Unit => .string y.1)) _) (ownFrom_keepX (by omega) (by omega)) : OwnFrom wc.heap.size (fun (_ : Unit) W => Boxed W (w.heap.size + 1 + 1) 9 (.string y.1) ∧ KeepX (w.heap.size + 1 + 1 + 1 + 2) (w.heap.size + 1 + 1) wc W)) () A B row h2 hg hr⟩)
    ⟨fun c hc => absurd hc (by simp), bR, KeepX.refl _ _ _⟩
    (fun x t => t.setIfInBounds 5 (.string x.1)) ?_ ?_ ?_ ?_
  · intro l x W K hK
    clear hsz
    gi_wp2
    simpa using hK
  · rintro l pre ⟨xs, hxs⟩ W ⟨hno, bx, hX⟩ _
    have hBw := hAc.trans (hX.below (M := w.heap.size) (by omega) (by omega))
    have hXW := hX.size
    have bSW := hX.boxed bS (by omega) (by omega)
    have kDW := kD.later (hX.below (M := w.heap.size + 1 + 1) (by omega) (Nat.le_refl _)) (Nat.lt_succ_self _)
    have hsW := hsb.on hBw
    have hmW := hmb.on hBw
    obtain ⟨lv, hlo, hlk⟩ := hmW.look xs (six_len hxs)
    have hhd : ∀ V, Below W.heap.size W V → Calls Tryz.prog 17 #[lv, .agg #[.bool neg, .string ds, .int .i64 sc]] V fun e w' => e = .returned (.bool (hitG g neg ds sc xs)) ∧ Below V.heap.size V w' := fun V hV => hold_opt (hlo.on hV) (hw V (hBw.trans (hV.mono hBw.size))).1 neg ds sc
    obtain ⟨H, hH⟩ : ∃ H, hitG g neg ds sc xs = H := ⟨_, rfl⟩
    rw [hH] at hhd
    have HH := Lib.hid hH
    have hfull : ∀ V, Below W.heap.size W V → V.cell? ⟨w.heap.size, 0, none⟩ = some (Value.pointer (some ⟨sb, 0, none⟩)) ∧ (∀ j, V.cell? ⟨w.heap.size + 1, j, none⟩ = #[Value.bool neg, Value.string ds, Value.int .i64 sc][j]?) ∧ (∀ j, V.cell? ⟨sb, j, none⟩ = #[Value.map (some mb)][j]?) ∧ (Instr.lookup 65 (.map (some mb)) (.string xs) false).run Tryz.prog V = .ok lv V ∧ Below W.heap.size W V := fun V hV =>
      ⟨(boxed_on bSW hV).cell, (kDW.on hV).cell, (hsW.on hV).cell, hlk V hV, hV⟩
    have hSd := hfull W.drew (Below.refl _ _).drew
    have hKeep : ∀ V, Below W.heap.size W V → ∀ {V'}, Below V.heap.size V V' → _ := fun V hV V' hV' => hfull V' (hV.trans (hV'.mono hV.size))
    have HBX := Lib.hid bx; have HX := Lib.hid hX; have HNO := Lib.hid hno
    clear hH hsz hXW bSW kDW hsW hmW hlk bx hX hno bS kD bR hst hBw hfull
    gi_wp2_with fail
    refine wpIn_region_held_drew (by kernel_rfl) (by rintro ⟨a, w, h⟩; exact h) (S := fun w' => w'.cell? ⟨w.heap.size, 0, none⟩ = some (Value.pointer (some ⟨sb, 0, none⟩)) ∧ (∀ j, w'.cell? ⟨w.heap.size + 1, j, none⟩ = #[Value.bool neg, Value.string ds, Value.int .i64 sc][j]?) ∧ (∀ j, w'.cell? ⟨sb, j, none⟩ = #[Value.map (some mb)][j]?) ∧ (Instr.lookup 65 (.map (some mb)) (.string xs) false).run Tryz.prog w' = .ok lv w' ∧ Below W.heap.size W w') (by kernel_rfl) (hSd) (fun hHeld => ?_)
    refine wpAnyH_take (i := 0) (v := ?_) rfl (by kernel_rfl) (by kernel_rfl) (by kernel_rfl) (fun _ _ _ h => h) (Or.inl ⟨by rfl, ?_⟩) hHeld ?_
    rotate_left
    · intro w hSw; (try dsimp only at hSw); first | (go_simp; done) | (go_simp; with_reducible rfl)
    try simp only [Act.put, List.setIfInBounds_toArray, List.set_cons_zero, List.set_cons_succ, List.getElem_toArray, List.getElem_cons_zero]
    refine wpAnyH_take (i := 1) (v := ?_) rfl (by kernel_rfl) (by kernel_rfl) (by kernel_rfl) (fun _ _ _ h => h) (Or.inl ⟨by rfl, ?_⟩) hHeld ?_
    rotate_left
    · intro w hSw; (try dsimp only at hSw); first | (go_simp; done) | (go_simp; with_reducible rfl)
    try simp only [Act.put, List.setIfInBounds_toArray, List.set_cons_zero, List.set_cons_succ, List.getElem_toArray, List.getElem_cons_zero, List.getElem_cons_succ]
    refine wpAnyH_take (i := 2) (v := ?_) rfl (by kernel_rfl) (by kernel_rfl) (by kernel_rfl) (fun _ _ _ h => h) (Or.inl ⟨by rfl, ?_⟩) hHeld ?_
    rotate_left
    · intro w hSw; (try dsimp only at hSw); first | (go_simp; done) | (go_simp; with_reducible rfl)
    try simp only [Act.put, List.setIfInBounds_toArray, List.set_cons_zero, List.set_cons_succ, List.getElem_toArray, List.getElem_cons_zero, List.getElem_cons_succ]
    refine wpAnyH_take (i := 3) (v := ?_) rfl (by kernel_rfl) (by kernel_rfl) (by kernel_rfl) (fun _ _ _ h => h) (Or.inl ⟨by rfl, ?_⟩) hHeld ?_
    rotate_left
    · intro w hSw; (try dsimp only at hSw); first | (go_simp; done) | (go_simp; with_reducible rfl)
    try simp only [Act.put, List.setIfInBounds_toArray, List.set_cons_zero, List.set_cons_succ, List.getElem_toArray, List.getElem_cons_zero, List.getElem_cons_succ]
    refine wpAnyH_take (i := 4) (v := ?_) rfl (by kernel_rfl) (by kernel_rfl) (by kernel_rfl) (fun _ _ _ h => h) (Or.inl ⟨by rfl, ?_⟩) hHeld ?_
    rotate_left
    · intro w hSw; (try dsimp only at hSw); first | (go_simp; done) | (go_simp; with_reducible rfl)
    try simp only [Act.put, List.setIfInBounds_toArray, List.set_cons_zero, List.set_cons_succ, List.getElem_toArray, List.getElem_cons_zero, List.getElem_cons_succ]
    refine wpAnyH_take (i := 5) (v := ?_) rfl (by kernel_rfl) (by kernel_rfl) (by kernel_rfl) (fun _ _ _ h => h) (Or.inl ⟨by rfl, ?_⟩) hHeld ?_
    rotate_left
    · intro w hSw; (try dsimp only at hSw); first | (go_simp; done) | (go_simp; with_reducible rfl)
    try simp only [Act.put, List.setIfInBounds_toArray, List.set_cons_zero, List.set_cons_succ, List.getElem_toArray, List.getElem_cons_zero, List.getElem_cons_succ]
    refine wpAnyH_take (i := 6) (v := ?_) rfl (by kernel_rfl) (by kernel_rfl) (by kernel_rfl) (fun _ _ _ h => h) (Or.inl ⟨by rfl, ?_⟩) hHeld ?_
    rotate_left
    · intro w hSw; (try dsimp only at hSw); first | (go_simp; done) | (go_simp; with_reducible rfl)
    try simp only [Act.put, List.setIfInBounds_toArray, List.set_cons_zero, List.set_cons_succ, List.getElem_toArray, List.getElem_cons_zero, List.getElem_cons_succ]
    refine wpAnyH_ready (rs := [7]) (by kernel_rfl) (by simp) ?_
    refine AllReadyH.cons rfl (fun K hK => ?_) AllReadyH.nil
    go_simp
    go_wp2_with (go_at_call 17; refine (hhd _ hSd.2.2.2.2).mono ?_; rintro e wy ⟨rfl, hBy⟩; have hSy := hKeep _ hSd.2.2.2.2 hBy)
    refine hK.out _ _ (hSy) (fun hHeld => ?_)
    clear hK K
    refine wpAnyH_done (by kernel_rfl) ?_ _
    have hE := hSy.2.2.2.2
    have bx := boxed_on HBX.out hE
    have hX := HX.out.on hE (by have := ZC.out; omega)
    clear hHeld hSy hSd hBy hKeep hhd hlo
    cases H with
    | true =>
      have bc := bx.cell
      have bf := bx.frozen
      have bs := bx.set (.string xs)
      have hXs := hX.setCell (.string xs)
      have hks := (keeps_below hE).trans (KeepsOthers.setCell wy ⟨w.heap.size + 1 + 1, 0, none⟩ (.string xs))
      gi_wp2
      exact ⟨hks, ⟨xs, hxs⟩, ⟨rfl, pre, rfl, HNO.out, HH.out⟩, bs, hXs⟩
    | false =>
      have hks := keeps_below hE
      have hkx := KeepX.of (x := w.heap.size + 1 + 1) hE (Nat.le_trans (by have := ZC.out; omega) HX.out.size : w.heap.size + 1 + 1 + 1 + 2 ≤ W.heap.size)
      gi_wp2
      refine ⟨hks, hkx, fun c hc => ?_, bx, hX⟩
      rcases List.mem_append.1 hc with h | h
      · exact HNO.out c h
      · rw [List.mem_singleton.1 h]
        exact HH.out
  · rintro D ys W hD rfl ⟨hno, bx, hX⟩ hK
    have hres := catS_none hno
    have hlD := (Array.getElem?_eq_some_iff.1 hK).1
    have hzX := hX.size
    have hA3 := hAc.trans (hX.below (M := w.heap.size) (by omega) (by omega))
    have hDb : D ≠ w.heap.size + 1 + 1 := by omega
    have hDw : w.heap.size ≤ D := by omega
    have bc := bx.cell
    have bf := bx.frozen
    have bs := bx.set (.string otherB)
    have ks := KeepsOthers.setCell W ⟨w.heap.size + 1 + 1, 0, none⟩ (.string otherB)
    have hB' := hA3.setCell (p := ⟨w.heap.size + 1 + 1, 0, none⟩) (show w.heap.size ≤ w.heap.size + 1 + 1 by omega) (.string otherB)
    have HR := Lib.hid hres
    clear hsz hzX hst bS kD bR hres
    unfold otherB at bs ks hB'
    gi_wp2_with fail
    refine leaves_marksR (w0 := w) [D] _ (fun E hE => ?_) ?_ (fun w' hb hk => ?_)
    · simp only [List.mem_cons, List.not_mem_nil, or_false] at hE
      subst hE
      exact ⟨hDw, ks.same _ _ hK rfl⟩
    · simp
    · have hc5 := (World.cell?_of_block (hk (w.heap.size + 1 + 1) (by simp only [List.mem_cons, List.not_mem_nil, or_false]; omega))).trans bs.cell
      refine ⟨.string otherB, ?_, by rw [HR.out], hB'.trans hb⟩
      simp [results, Tryz.f19, go_sem, hc5, otherB]
  · rintro D c pre W hD hSp ⟨y, ⟨rfl, p, rfl, hno, hy⟩, bx, hX⟩ hK
    have hres := catS_some hSp hno hy
    have hlD := (Array.getElem?_eq_some_iff.1 hK).1
    have hzX := hX.size
    have hA3 := hAc.trans (hX.below (M := w.heap.size) (by omega) (by omega))
    have hDb : D ≠ w.heap.size + 1 + 1 := by omega
    have hDw : w.heap.size ≤ D := by omega
    have HR := Lib.hid hres
    clear hsz hzX hst bS kD bR hres
    gi_wp2_with fail
    refine leaves_marksR (w0 := w) [D] _ (fun E hE => ?_) ?_ (fun w' hb hk => ?_)
    · simp only [List.mem_cons, List.not_mem_nil, or_false] at hE
      subst hE
      exact ⟨hDw, hK⟩
    · simp
    · have hc5 := (World.cell?_of_block (hk (w.heap.size + 1 + 1) (by simp only [List.mem_cons, List.not_mem_nil, or_false]; omega))).trans bx.cell
      refine ⟨.string y.1, ?_, by rw [HR.out], hA3.trans hb⟩
      simp [results, Tryz.f19, go_sem, hc5]
end

section
open Go.RowKit Go.Shelf Go.PlainAid
attribute [local go_sem] Oper.semAt_some

/-- Which categories a set tells: those of which there is a rule, and other. -/
def keepB (g : ByteArray → Option (List (List Rl))) (c : ByteArray) : Bool := decide (c = otherB) || (g c).isSome
def kpS (g : ByteArray → Option (List (List Rl))) (xs : List Six) : List Six := xs.filter fun x => keepB g x.1
theorem kpS_hit {g : ByteArray → Option (List (List Rl))} (pre : List Six) {x : Six} (h : keepB g x.1 = true) : kpS g (pre ++ [x]) = kpS g pre ++ [x] := by simp [kpS, h]
theorem kpS_miss {g : ByteArray → Option (List (List Rl))} (pre : List Six) {x : Six} (h : keepB g x.1 = false) : kpS g (pre ++ [x]) = kpS g pre := by simp [kpS, h]
theorem kpS_six (g : ByteArray → Option (List (List Rl))) : (kpS g sixL).map (fun x => Value.string x.1) = (six.filter (keepB g)).map Value.string := by
  have h : six.filter (keepB g) = (kpS g sixL).map (fun x => x.1) := by
    have h2 : six.filter (keepB g) = (sixL.map (fun x : Six => x.1)).filter (keepB g) := by rw [sixL_map]
    rw [h2, List.filter_map]
    rfl
  rw [h, List.map_map]
  rfl
theorem kpS_len (g : ByteArray → Option (List (List Rl))) : ∃ m, (kpS g sixL).length = m + 1 := by
  have h : otherB ∈ six.filter (keepB g) := List.mem_filter.2 ⟨by unfold six otherB; exact .tail _ (.tail _ (.tail _ (.tail _ (.tail _ (.head _))))), by simp [keepB]⟩
  have h2 := congrArg List.length (kpS_six g)
  rw [List.length_map, List.length_map] at h2
  have h3 := List.length_pos_of_mem h
  exact ⟨(kpS g sixL).length - 1, by omega⟩

set_option maxRecDepth 100000 in
set_option maxHeartbeats 4000000 in
theorem setCats_any {lo : Nat} {g : ByteArray → Option (List (List Rl))} (v : Value) (w : World) (hv : SetAt lo w v g) (hT : PW w) :
    Calls Tryz.prog 14 #[v] w fun e w' => (∃ b cap, e = .returned (.slice (some ⟨b, 0, none⟩) (six.filter (keepB g)).length cap) ∧ b < w'.heap.size ∧ (six.filter (keepB g)).length ≤ cap ∧ ∀ j (hj : j < (six.filter (keepB g)).length), w'.cell? ⟨b, j, none⟩ = some (.string (six.filter (keepB g))[j])) ∧ Below w.heap.size w w' := by
  obtain ⟨i0, hi, hz0, hz1, hz2⟩ := info_parts infoS
  obtain ⟨sb, mb, n, rfl, hsb, hmb⟩ := hv
  have hA0 := ((Below.refl w.heap.size w).alloc (Nat.le_refl _) (.cells #[.pointer (some ⟨sb, 0, none⟩)] 30)).alloc (by simp) (.cells #[.slice none 0 0] 31)
  have bL0 := Boxed.new (w.alloc (.cells #[.pointer (some ⟨sb, 0, none⟩)] 30)) 31 (.slice none 0 0)
  have bS0 := (Boxed.new w 30 (.pointer (some ⟨sb, 0, none⟩))).alloc (.cells #[.slice none 0 0] 31)
  have z0 : ((w.alloc (.cells #[.pointer (some ⟨sb, 0, none⟩)] 30)).alloc (.cells #[.slice none 0 0] 31)).heap.size = w.heap.size + 2 := by simp
  rw [World.size_alloc] at bL0
  generalize hw0 : (w.alloc (.cells #[.pointer (some ⟨sb, 0, none⟩)] 30)).alloc (.cells #[.slice none 0 0] 31) = w0 at *
  have HW0 := Lib.hid hw0
  have hca := cats_any w0 (hT _ hA0).2
  clear hw0
  refine (callsIn_wide (n := 3)).1 ?_
  refine callsIn_of_wp_marks Tryz.func14 rfl trivial ?_ rfl
  simp only [Tryz.ntmps14, List.size_toArray, List.length_cons, List.length_nil, Nat.reduceAdd, Nat.reduceSub, Array.replicate_succ, Array.replicate_zero, List.push_toArray, List.append_toArray, List.nil_append, List.cons_append]
  gi_wp2_with fail
  rw [HW0.out]
  refine ⟨trivial, ?_⟩
  refine (callsIn_wide.2 hca).mono ?_
  rintro e w1 ⟨rfl, rfl⟩
  have bL := boxed_on bL0 (catW_below w0)
  have bS := boxed_on bS0 (catW_below w0)
  have zc := catW_size w0
  have hAc := hA0.trans ((catW_below w0).mono (by omega))
  have hst := cats_stops2 (3 - 1) (by decide) w0 (catW w0) (Below.refl _ _) (KeepX (w.heap.size + 4) (w.heap.size + 1)) (fun A B j h => h.cell (by omega) (by omega))
  rw [z0] at hst zc
  clear bL0 bS0 hca
  gi_wp2_with fail
  refine rangeFU rfl (by decide) (gf := 51) (lb := #[.pointer (some ⟨w.heap.size + 2 + 1, 0, none⟩)]) rfl trivial (enters_of Tryz.func51 (by kernel_rfl) rfl)
    hst KeepX.trans (keepX_b (by omega)) (Below.refl _ _) (fun _ => rfl)
    (fun pre W => (∃ v, Boxed W (w.heap.size + 1) 31 v ∧ W.ownsRow (w.heap.size + 4) 9 1 v (kpS g pre).length ((kpS g pre).map (fun x => Value.string x.1)) ∧ True) ∧ KeepX (w.heap.size + 4) (w.heap.size + 1) (catW w0) W)
    (fun _ _ _ => False)
    (OwnFrom.and (Own.from (holdsRow_own (w.heap.size + 4) (w.heap.size + 1) 31 9 1 (fun pre => (kpS g pre).length) (fun pre => (kpS g pre).map (fun x => Value.string x.1)) (fun _ _ => True)) _) (ownFrom_keepX (by omega) (by omega)))
    (fun _ _ _ _ _ hs _ _ => hs)
    ⟨⟨_, bL, World.ownsRow_nil _ _ _ _, trivial⟩, KeepX.refl _ _ _⟩
    (fun x t => t.setIfInBounds 4 (.string x.1)) ?_ ?_ ?_ ?_
  · intro l x W K hK
    gi_wp2
    simpa using hK
  · rintro l pre ⟨x, hx6⟩ W ⟨⟨v, hv, hrow, _⟩, hB⟩ hlt
    have hc := hv.cell
    have cS := (hB.boxed bS (by omega) (by omega)).cell
    have hpl : (kpS g pre).length ≤ pre.length := List.length_filter_le _ _
    have hsz := hB.size
    have hBw := hAc.trans (hB.below (M := w.heap.size) (by omega) (by omega))
    have cM := (hsb.on hBw).cell 0
    simp at cM
    obtain ⟨lv, hlo, hlk⟩ := (hmb.on hBw).look x (six_len hx6)
    have hlw := hlk W (Below.refl _ _)
    have hln := hlo.nil
    clear hlk hlo
    by_cases hk : keepB g x = true
    · have HK := Lib.hid hk
      have hcase : ((x.toList == [111, 116, 104, 101, 114]) = true) ∨ ((x.toList == [111, 116, 104, 101, 114]) = false ∧ ∃ b : Nat, lv = .pointer (some ⟨b, 0, none⟩)) := by
        by_cases hx : x = otherB
        · exact .inl (tl_yes hx)
        · refine .inr ⟨tl_no hx, ?_⟩
          rcases hln with ⟨_, h⟩ | ⟨b, h, _⟩
          · unfold keepB at hk
            rw [h, decide_eq_false hx] at hk
            cases hk
          · exact ⟨b, h⟩
      clear hk hln
      rcases hcase with e1 | ⟨e1, b, rfl⟩
      all_goals
        gi_wp2_with (gi_at_builtin; refine wpListIn_append_own _ rfl _ _ 31 rfl (w.heap.size + 4) 9 i0 (.string ⟨#[]⟩) 1 16 Tryz.underlying31 hi hz0 hz1 hz2 rfl (by decide) _ _ _ rfl (hrow.alloc _) ⟨W.heap.size, 0, none⟩ 1 1 [.string x] rfl rfl (cell_one_new _ _ _) (by simp [Value.oneCell']) (by unfold maxLen; omega) (by omega) (by simp; omega) ?_; intro v' w1 hown' hgrow _; obtain ⟨g', cap', rfl⟩ := ownsRow_succ hown'; obtain ⟨hv1, hv2, hr2, hk2, hb2⟩ := appendedX hv (by decide) hrow (by omega) hown' hgrow; have hc1 := hv1.cell; have hf1 := hv1.frozen)
        exact ⟨hk2, hb2, ⟨_, hv2, by rw [kpS_hit pre (x := ⟨x, hx6⟩) HK.out]; simpa using hr2, trivial⟩, hB.trans hb2⟩
    · have hk : keepB g x = false := by simpa using hk
      have HK := Lib.hid hk
      have e1 : (x.toList == [111, 116, 104, 101, 114]) = false := tl_no (fun e => by unfold keepB at hk; rw [decide_eq_true (show x = otherB from e)] at hk; cases hk)
      have hlv : lv = .pointer none := by
        rcases hln with ⟨h, _⟩ | ⟨b, _, h⟩
        · exact h
        · unfold keepB at hk
          rw [h, Bool.or_true] at hk
          cases hk
      subst hlv
      clear hk hln
      gi_wp2
      exact ⟨KeepsOthers.refl _, KeepX.refl _ _ _, ⟨v, hv, by rw [kpS_miss pre (x := ⟨x, hx6⟩) HK.out]; exact hrow, trivial⟩, hB⟩
  · rintro D ys W hD rfl ⟨⟨v, hv, hrow, _⟩, hB⟩ hK
    have hc := hv.cell
    obtain ⟨m, hm⟩ := kpS_len g
    have hlen : (six.filter (keepB g)).length = (kpS g sixL).length := by
      have h2 := congrArg List.length (kpS_six g)
      rw [List.length_map, List.length_map] at h2
      exact h2.symm
    rw [kpS_six, hm] at hrow
    rw [hm] at hlen
    obtain ⟨g1, cap, rfl⟩ := ownsRow_succ hrow
    gi_wp2
    refine ⟨by simp, .inl ⟨_, _, rfl, run_takeDeferred hK, ?_⟩⟩
    have hr2 := ownsRow_putObj hrow (.deferred none) hK rfl
    have hg2 : g1 < (W.putObj D (.deferred none)).heap.size ∧ m + 1 ≤ cap := by
      rcases hr2.2 with ⟨h, _⟩ | ⟨g2, cap2, cur, h, _, hh, hcp, _⟩
      · cases h
      · injection h with h1 h2 h3
        injection h1 with h1
        injection h1 with h1
        subst h1 h3
        exact ⟨(Array.getElem?_eq_some_iff.1 hh).1, hcp⟩
    refine ⟨_, results_tmp rfl _ _ _, ⟨g1, cap, by rw [hlen]; rfl, hg2.1, by rw [hlen]; exact hg2.2, fun j hj => ?_⟩, (hAc.trans (hB.below (by omega) (by omega))).trans (belowK_b (w := catW w0) (by omega) W D _ _ hD hK rfl rfl)⟩
    rw [World.ownsRow.cellAt hr2 j (by rw [← hlen]; simpa using hj), List.getElem?_map, List.getElem?_eq_getElem hj]
    rfl
  · rintro D c pre W _ _ h _
    exact h.elim
end

section
open Go.RowKit Go.PlainAid

/-- A slice of pairs that came in. -/
def PaArg (w : World) (v : Value) (l : List Pr2) : Prop := PaAt w v l ∧ ∃ a cap, v = .slice a l.length cap ∧ (a = none → cap = 0 ∧ l.length = 0)
theorem PaArg.on {w w' : World} {v : Value} {l : List Pr2} (h : PaArg w v l) (hB : Below w.heap.size w w') : PaArg w' v l := ⟨h.1.on hB, h.2⟩
theorem GRow.pa {base : Nat} {w : World} {v : Value} {l : List Pr2} (h : GRow PaE base w v l) : PaAt w v l := by
  rcases h.read with ⟨rfl, rfl⟩ | ⟨g, cap, rfl, _, h1, h2, h3, h4⟩
  · exact ⟨none, 0, rfl, Nat.le_refl _, Nat.zero_le _, fun i hi => absurd hi (by simp)⟩
  · refine ⟨_, cap, rfl, h2, h3, fun i hi => ⟨g, 0, rfl, h1, ?_, ?_⟩⟩
    · have h := h4 i hi 0 (by decide)
      rw [Nat.zero_add]
      exact h
    · have h := h4 i hi 1 (by decide)
      rw [Nat.zero_add]
      exact h
set_option maxRecDepth 100000 in
/-- append([]api.Pair{}, l...): a copy of its own. -/
theorem wpList_copy_pa {ops : Array Oper} {rest : List Oper} {o : Oper} {a : Act} {Q : Exit → Act → World → Prop} {W0 w : World} {B : Nat} (hgd : o.guard = none) (s y : Operand)
    (ho : o.op = .call { callee := .builtin .append, args := #[s, y], argTypes := #[39, 39] }) (q : Nat) (hq : q = w.heap.size) (hs : a.eval s = .slice (some ⟨q, 0, none⟩) 0 0)
    (v : Value) (l : List Pr2) (hx : a.eval y = v) (hv : PaArg w v l) (hlen : l.length ≤ 1000000) (hB : Below B W0 w) (hb : B ≤ w.heap.size)
    (h : ∀ v' w', PaAt w' v' l → Below B W0 w' → wpList Tryz.prog ops Q rest (a.put o.dst v') w') : wpList Tryz.prog ops Q (o :: rest) a (w.alloc (.cells #[] 78)) := by
  subst hq
  obtain ⟨i0, hi, hz0, hz1, hz2⟩ := info_parts PaE.info
  have hown : (w.alloc (.cells #[] 78)).ownsRow w.heap.size 78 2 (.slice (some ⟨w.heap.size, 0, none⟩) 0 0) 0 [] :=
    ⟨rfl, .inr ⟨w.heap.size, 0, #[], rfl, Nat.le_refl _, (by show (w.heap.push _)[w.heap.size]? = _; simp), Nat.le_refl _, Nat.zero_le _, rfl, rfl⟩⟩
  have hBa := hB.alloc hb (.cells #[] 78)
  obtain ⟨⟨ad, cap, rfl, _, _, hc⟩, ad2, cap2, he, hn⟩ := hv
  injection he with he1 _ he2
  subst he1 he2
  cases ad with
  | none =>
    obtain ⟨rfl, hl0⟩ := hn rfl
    have hnil : l = [] := List.eq_nil_of_length_eq_zero hl0
    subst hnil
    exact wpList_append_own_none hgd s y 39 ho w.heap.size 78 i0 2 Tryz.underlying39 hi _ 0 [] hs hown hx (h _ _ (GRow.pa (base := w.heap.size) hown) hBa)
  | some ad =>
    refine wpList_append_own _ hgd s y 39 ho w.heap.size 78 i0 PaE.z 2 32 Tryz.underlying39 hi hz0 hz1 hz2 rfl (by decide) _ 0 [] hs hown ad l.length cap (PaE.cs l) hx (PaE.cs_len l) (fun j u hu => ?_) (fun u hu => ?_) (by unfold maxLen; omega) (by omega) (by simp) ?_
    · obtain ⟨hj, hju⟩ := List.getElem?_eq_some_iff.1 hu
      rw [PaE.cs_len] at hj
      have hj : j < l.length * 2 := hj
      have hk : j / 2 < l.length := by omega
      obtain ⟨g, off, he, hg, c0, c1⟩ := hc (j / 2) hk
      injection he with he
      subst he
      have hA := (Below.refl w.heap.size w).alloc (Nat.le_refl _) (.cells #[] 78)
      have hat0 := PaE.cs_at l (j / 2) hk 0 (by decide)
      have hat1 := PaE.cs_at l (j / 2) hk 1 (by decide)
      have e2 : PaE.sz = 2 := rfl
      rw [e2] at hat0 hat1
      rw [Lib.add_plain]
      rcases (by omega : j = j / 2 * 2 ∨ j = j / 2 * 2 + 1) with hjj | hjj
      · rw [hjj] at hu ⊢
        rw [cell_kept c0 hA]
        rw [Nat.add_zero] at hat0
        rw [hat0] at hu
        exact hu
      · rw [hjj] at hu ⊢
        rw [← Nat.add_assoc, cell_kept c1 hA]
        rw [hat1] at hu
        exact hu
    · unfold ETy.cs at hu
      obtain ⟨x, _, hx⟩ := List.mem_flatMap.1 hu
      exact PaE.hone x u hx
    intro v' w' hown' hgrow _
    rw [Nat.zero_add, List.nil_append] at hown'
    refine h v' w' (GRow.pa (base := w.heap.size) hown') (hBa.grown hgrow (by simp; omega) (fun k hk => ?_))
    have : k = w.heap.size := by injection hk with e; exact e.symm
    omega

theorem name_other (i : Nat) (h : i < 6) : nameB (i : Int) = otherB ↔ i = 5 := by
  have : ∀ i : Fin 6, (nameB (i.val : Int) = otherB ↔ i.val = 5) := by decide +kernel
  exact this ⟨i, h⟩
/-- The two ways to say a decimal's category. -/
theorem cat_same {g : ByteArray → Option (List (List Rl))} {neg : Bool} {ds : ByteArray} {sc : Int} (ho : g otherB = none) : catS (hitG g neg ds sc) = catF g neg ds sc 5 0 := by
  have hoth : hitG g neg ds sc otherB = false := by unfold hitG metO; rw [ho]
  have key : ∀ f i, f + i = 5 → ((six.drop i).find? (hitG g neg ds sc)).getD otherB = catF g neg ds sc f i := by
    intro f
    induction f with
    | zero =>
      intro i hi
      obtain rfl : i = 5 := by omega
      show (([otherB] : List ByteArray).find? (hitG g neg ds sc)).getD otherB = otherB
      rw [List.find?_cons_of_neg (by rw [hoth]; simp)]
      rfl
    | succ f ih =>
      intro i hi
      have hi6 : i < six.length := by show i < 6; omega
      rw [List.drop_eq_getElem_cons hi6, six_name i hi6]
      cases hg : g (nameB (i : Int)) with
      | none =>
        rw [List.find?_cons_of_neg (by unfold hitG metO; rw [hg]; simp), ih (i + 1) (by omega), catF_none hg]
      | some rows =>
        cases hm : metB neg ds sc rows with
        | true =>
          rw [List.find?_cons_of_pos (by unfold hitG metO; rw [hg]; simpa using hm), catF_yes hg hm]
          rfl
        | false =>
          rw [List.find?_cons_of_neg (by unfold hitG metO; rw [hg]; simp [hm]), ih (i + 1) (by omega), catF_nn hg hm]
  exact key 5 0 rfl
/-- Among pairs that may be there is none with the key other. -/
theorem fa_other : ∀ (all l : List Pr2) (i : Nat), faL all l i = (0, 0) → ∀ p ∈ l, p.1 ≠ otherB
  | all, [], i, _, p, hp => absurd hp (by simp)
  | all, q :: l, i, h, p, hp => by
    unfold faL at h
    split at h
    · injection h with h1; omega
    · rename_i h1
      split at h
      · injection h with h1; omega
      · split at h
        · injection h with h1; omega
        · cases hr : ruleP q.2 with
          | bad x => rw [hr] at h; injection h with h1; omega
          | ok a b c =>
            rw [hr] at h
            rcases List.mem_cons.1 hp with rfl | hp
            · intro e
              exact h1 (.inr ((other_is _).2 e))
            · exact fa_other all l (i + 1) h p hp
theorem filter_take {p : ByteArray → Bool} {L : List ByteArray} {i : Nat} (h : i < L.length) (hp : p L[i] = true) : (L.filter p)[((L.take i).filter p).length]? = some L[i] ∧ ((L.take (i + 1)).filter p).length = ((L.take i).filter p).length + 1 ∧ ((L.take i).filter p).length < (L.filter p).length := by
  have e : L.filter p = (L.take i).filter p ++ L[i] :: (L.drop (i + 1)).filter p := by
    have h2 : L = L.take i ++ L[i] :: L.drop (i + 1) := by rw [← List.drop_eq_getElem_cons h, List.take_append_drop]
    have h3 := congrArg (List.filter p) h2
    rw [List.filter_append, List.filter_cons_of_pos hp] at h3
    exact h3
  refine ⟨?_, ?_, ?_⟩
  · rw [e, List.getElem?_append_right (Nat.le_refl _), Nat.sub_self]
    rfl
  · rw [List.take_succ_eq_append_getElem h, List.filter_append, List.length_append, List.filter_cons_of_pos hp]
    rfl
  · have h4 := congrArg List.length e
    rw [List.length_append, List.length_cons] at h4
    omega
theorem filter_skip {p : ByteArray → Bool} {L : List ByteArray} {i : Nat} (h : i < L.length) (hp : p L[i] = false) : ((L.take (i + 1)).filter p).length = ((L.take i).filter p).length := by
  rw [List.take_succ_eq_append_getElem h, List.filter_append, List.length_append, List.filter_cons_of_neg (by rw [hp]; simp)]
  rfl

set_option maxRecDepth 100000 in
set_option maxHeartbeats 8000000 in
theorem pluralSets_walk (v : Value) (l : List Pr2) (neg : Bool) (ds : ByteArray) (sc : Int) (w : World) (hv : PaArg w v l) (_ : True) (hw : PW w) :
    Calls Tryz.prog 4 #[v, .agg #[.bool neg, .string ds, .int .i64 sc]] w fun e w' => e = .returned (.bool true) ∧ Below w.heap.size w w' := by
  have hA0 := (Below.refl w.heap.size w).alloc (Nat.le_refl _) (.cells #[.bool neg, .string ds, .int .i64 sc] 23)
  have kD := Blk.new w #[.bool neg, .string ds, .int .i64 sc] 23
  have hwk := wakes_pw _ (hw.on hA0)
  have hv0 := hv.on hA0
  obtain ⟨va, vcap, rfl, _⟩ := id hv.2
  have HV := Lib.hid hv
  by_cases hs : 20 < l.length
  · have hsI : (20 : Int) < l.length := by omega
    clear hs kD hv0 hv
    go_enter Tryz.func4, Tryz.ntmps4
    go_wp2_with fail
    refine hwk.mono ?_
    rintro e w1 ⟨rfl, hB1'⟩
    have hB1 := hA0.trans (hB1'.mono hA0.size)
    go_wp2_with fail
    go_ret
    exact ⟨rfl, hB1⟩
  · have hsI : ¬ (20 : Int) < l.length := by omega
    have HSZ := Lib.hid hs
    have hl20 : l.length ≤ 1000000 := by omega
    clear hs hv0
    go_enter Tryz.func4, Tryz.ntmps4
    go_wp2_with fail
    refine hwk.mono ?_
    rintro e w1 ⟨rfl, hB1'⟩
    have hB1 := hA0.trans (hB1'.mono hA0.size)
    have kD1 := kD.on hB1'
    have hv1 := HV.out.on hB1
    have HL := Lib.hid hl20
    clear hwk kD hB1' hv hl20
    go_wp2_with (at_builtin; go_must (refine wpList_copy_pa rfl _ _ rfl _ rfl rfl _ l rfl hv1 HL.out (Below.refl w1.heap.size w1) (Nat.le_refl _) ?_); intro v' w2 hr2 hB2)
    have hB2w := hB1.trans (hB2.mono hB1.size)
    have kD2 := kD1.on hB2
    have hnew := new_any v' l w2 hr2 HL.out (hw.on hB2w)
    refine hnew.mono ?_
    rintro e w3 ⟨hne, hB3⟩
    have hB3w := hB2w.trans (hB3.mono hB2w.size)
    have kD3 := kD2.on hB3
    clear hnew hr2 hB2 hB2w kD1 kD2 hB1 hv1 hB3
    rcases hne with ⟨sv, hfa, hok, rfl, hset⟩ | ⟨hfa, rfl⟩
    · have hA4 := (Below.refl w3.heap.size w3).alloc (Nat.le_refl _) (.cells #[.int .i64 0, .int .i64 0] 42)
      have kF := Blk.new w3 #[.int .i64 0, .int .i64 0] 42
      have hz4 : w3.heap.size < (w3.alloc (.cells #[.int .i64 0, .int .i64 0] 42)).heap.size := by simp
      have hB4w := hB3w.trans (hA4.mono hB3w.size)
      have kD4 := kD3.on hA4
      have hset4 := hset.on hA4
      have hrf := rFault_any _ l _ (HV.out.on hB4w).1 HL.out
      rw [hfa] at hrf
      have HFA := Lib.hid hfa; have HOK := Lib.hid hok
      clear hA4 kD3 hset hB3w hfa hok
      go_wp2_with fail
      generalize w3.alloc (.cells #[.int .i64 0, .int .i64 0] 42) = w4 at *
      refine hrf.mono ?_
      rintro e w5 ⟨rfl, hB5⟩
      have hA6 := (Below.refl w5.heap.size w5).alloc (Nat.le_refl _) (.cells #[.int .i64 0, .int .i64 0] 42)
      have kW := Blk.new w5 #[.int .i64 0, .int .i64 0] 42
      have hB56 := hB5.trans (hA6.mono hB5.size)
      have hB6w := hB4w.trans (hB56.mono hB4w.size)
      have kF6 := kF.on hB56
      have kD6 := kD4.on hB56
      have hset6 := hset4.on hB56
      obtain ⟨sb, smb, smn, rfl, _⟩ := id hset6
      have wc := kW.cell
      clear hrf hB5 hA6 hB56 hB4w kF kD4 hset4 hz4
      go_upto_region 9 with fail
      generalize w5.alloc (.cells #[.int .i64 0, .int .i64 0] 42) = w7 at *
      obtain ⟨fb, hfb⟩ : ∃ x, w3.heap.size = x := ⟨_, rfl⟩
      obtain ⟨wb, hwb⟩ : ∃ x, w5.heap.size = x := ⟨_, rfl⟩
      rw [hfb] at kF6 ⊢
      rw [hwb] at kW ⊢
      clear wc hfb hwb
      obtain ⟨C, hC⟩ : ∃ C, catF (rlsOf l) neg ds sc 5 0 = C := ⟨_, rfl⟩
      have hon : rlsOf l otherB = none := rlsOf_none ((fdL_neg l 0).2 (fa_other l l 0 HFA.out))
      have hcs := cat_same (neg := neg) (ds := ds) (sc := sc) hon
      rw [hC] at hcs
      have hc1 : ∀ W, Below w7.heap.size w7 W → Calls Tryz.prog 19 #[.pointer (some ⟨sb, 0, none⟩), .agg #[.bool neg, .string ds, .int .i64 sc]] W fun e w' => e = .returned (.string C) ∧ Below W.heap.size W w' := fun W hW => by
        have h := setCat_any _ neg ds sc W (hset6.on hW) (hw.on (hB6w.trans (hW.mono hB6w.size)))
        rw [hcs] at h
        exact h
      have hc2 : ∀ W, Below w7.heap.size w7 W → Calls Tryz.prog 22 #[.slice va l.length vcap, .agg #[.bool neg, .string ds, .int .i64 sc]] W fun e w' => e = .returned (.string C) ∧ Below W.heap.size W w' := fun W hW => by
        have h := rCat_any (.slice va l.length vcap) l neg ds sc W (HV.out.on (hB6w.trans (hW.mono hB6w.size))).1 HL.out HOK.out
        rw [hC] at h
        exact h
      have hKeep : ∀ W W' : World, Below w7.heap.size w7 W → Below W.heap.size W W' → (∀ j, W'.cell? ⟨fb, j, none⟩ = #[Value.int .i64 0, Value.int .i64 0][j]?) ∧ (∀ j, W'.cell? ⟨wb, j, none⟩ = #[Value.int .i64 0, Value.int .i64 0][j]?) ∧ (∀ j, W'.cell? ⟨w.heap.size, j, none⟩ = #[Value.bool neg, Value.string ds, Value.int .i64 sc][j]?) ∧ Below w7.heap.size w7 W' := fun W W' h1 h2 =>
        have h := h1.trans (h2.mono h1.size)
        ⟨(kF6.on h).cell, (kW.on h).cell, (kD6.on h).cell, h⟩
      have hSd := hKeep w7 w7.drew (Below.refl _ _) (Below.refl _ _).drew
      have hCC : (C.toList == C.toList) = true := by simp
      have HON := Lib.hid hon
      clear hC hcs hon
      refine wp_region_held_drew (S := fun w' => (∀ j, w'.cell? ⟨fb, j, none⟩ = #[Value.int .i64 0, Value.int .i64 0][j]?) ∧ (∀ j, w'.cell? ⟨wb, j, none⟩ = #[Value.int .i64 0, Value.int .i64 0][j]?) ∧ (∀ j, w'.cell? ⟨w.heap.size, j, none⟩ = #[Value.bool neg, Value.string ds, Value.int .i64 sc][j]?) ∧ Below w7.heap.size w7 w') (by kernel_rfl) (hSd) (fun hHeld => ?_)
      refine wpAnyH_take (i := 0) (v := ?_) rfl (by kernel_rfl) (by kernel_rfl) (by kernel_rfl) (fun _ _ _ h => h) (Or.inl ⟨by rfl, ?_⟩) hHeld ?_
      rotate_left
      · intro w hSw; (try dsimp only at hSw); first | (go_simp; done) | (go_simp; with_reducible rfl)
      try simp only [Act.put, List.setIfInBounds_toArray, List.set_cons_zero, List.set_cons_succ, List.getElem_toArray, List.getElem_cons_zero]
      refine wpAnyH_take (i := 1) (v := ?_) rfl (by kernel_rfl) (by kernel_rfl) (by kernel_rfl) (fun _ _ _ h => h) (Or.inl ⟨by rfl, ?_⟩) hHeld ?_
      rotate_left
      · intro w hSw; (try dsimp only at hSw); first | (go_simp; done) | (go_simp; with_reducible rfl)
      try simp only [Act.put, List.setIfInBounds_toArray, List.set_cons_zero, List.set_cons_succ, List.getElem_toArray, List.getElem_cons_zero, List.getElem_cons_succ]
      refine wpAnyH_take (i := 2) (v := ?_) rfl (by kernel_rfl) (by kernel_rfl) (by kernel_rfl) (fun _ _ _ h => h) (Or.inl ⟨by rfl, ?_⟩) hHeld ?_
      rotate_left
      · intro w hSw; (try dsimp only at hSw); first | (go_simp; done) | (go_simp; with_reducible rfl)
      try simp only [Act.put, List.setIfInBounds_toArray, List.set_cons_zero, List.set_cons_succ, List.getElem_toArray, List.getElem_cons_zero, List.getElem_cons_succ]
      refine wpAnyH_take (i := 3) (v := ?_) rfl (by kernel_rfl) (by kernel_rfl) (by kernel_rfl) (fun _ _ _ h => h) (Or.inl ⟨by rfl, ?_⟩) hHeld ?_
      rotate_left
      · intro w hSw; (try dsimp only at hSw); first | (go_simp; done) | (go_simp; with_reducible rfl)
      try simp only [Act.put, List.setIfInBounds_toArray, List.set_cons_zero, List.set_cons_succ, List.getElem_toArray, List.getElem_cons_zero, List.getElem_cons_succ]
      refine wpAnyH_take (i := 4) (v := ?_) rfl (by kernel_rfl) (by kernel_rfl) (by kernel_rfl) (fun _ _ _ h => h) (Or.inl ⟨by rfl, ?_⟩) hHeld ?_
      rotate_left
      · intro w hSw; (try dsimp only at hSw); first | (go_simp; done) | (go_simp; with_reducible rfl)
      try simp only [Act.put, List.setIfInBounds_toArray, List.set_cons_zero, List.set_cons_succ, List.getElem_toArray, List.getElem_cons_zero, List.getElem_cons_succ]
      refine wpAnyH_take (i := 5) (v := ?_) rfl (by kernel_rfl) (by kernel_rfl) (by kernel_rfl) (fun _ _ _ h => h) (Or.inl ⟨by rfl, ?_⟩) hHeld ?_
      rotate_left
      · intro w hSw; (try dsimp only at hSw); first | (go_simp; done) | (go_simp; with_reducible rfl)
      try simp only [Act.put, List.setIfInBounds_toArray, List.set_cons_zero, List.set_cons_succ, List.getElem_toArray, List.getElem_cons_zero, List.getElem_cons_succ]
      refine wpAnyH_take (i := 7) (v := ?_) rfl (by kernel_rfl) (by kernel_rfl) (by kernel_rfl) (fun _ _ _ h => h) (Or.inl ⟨by rfl, ?_⟩) hHeld ?_
      rotate_left
      · intro w hSw; (try dsimp only at hSw); first | (go_simp; done) | (go_simp; with_reducible rfl)
      try simp only [Act.put, List.setIfInBounds_toArray, List.set_cons_zero, List.set_cons_succ, List.getElem_toArray, List.getElem_cons_zero, List.getElem_cons_succ]
      refine wpAnyH_take (i := 8) (v := ?_) rfl (by kernel_rfl) (by kernel_rfl) (by kernel_rfl) (fun _ _ _ h => h) (Or.inl ⟨by rfl, ?_⟩) hHeld ?_
      rotate_left
      · intro w hSw; (try dsimp only at hSw); first | (go_simp; done) | (go_simp; with_reducible rfl)
      try simp only [Act.put, List.setIfInBounds_toArray, List.set_cons_zero, List.set_cons_succ, List.getElem_toArray, List.getElem_cons_zero, List.getElem_cons_succ]
      refine wpAnyH_ready (rs := [6]) (by kernel_rfl) (by simp) ?_
      refine AllReadyH.cons rfl (fun K hK => ?_) AllReadyH.nil
      go_simp
      go_wp2_with (go_at_call 19; refine (hc1 _ hSd.2.2.2).mono ?_; rintro e wy ⟨rfl, hBy⟩; have hSy := hKeep _ _ hSd.2.2.2 hBy)
      refine hK.out _ _ (hSy) (fun hHeld => ?_)
      clear hK K
      refine wpAnyH_ready (rs := [9]) (by kernel_rfl) (by simp) ?_
      refine AllReadyH.cons rfl (fun K hK => ?_) AllReadyH.nil
      go_simp
      go_wp2_with (go_at_call 22; refine (hc2 _ hSy.2.2.2).mono ?_; rintro e wz ⟨rfl, hBz⟩; have hSz := hKeep _ _ hSy.2.2.2 hBz)
      refine hK.out _ _ (hSz) (fun hHeld => ?_)
      clear hK K
      refine wpAnyH_take (i := 10) (v := ?_) rfl (by kernel_rfl) (by kernel_rfl) (by kernel_rfl) (fun _ _ _ h => h) (Or.inl ⟨by rfl, ?_⟩) hHeld ?_
      rotate_left
      · intro w hSw; (try dsimp only at hSw); first | (go_simp; done) | (go_simp; with_reducible rfl)
      try simp only [Act.put, List.setIfInBounds_toArray, List.set_cons_zero, List.set_cons_succ, List.getElem_toArray, List.getElem_cons_zero, List.getElem_cons_succ]
      refine wpAnyH_take (i := 11) (v := ?_) rfl (by kernel_rfl) (by kernel_rfl) (by kernel_rfl) (fun _ _ _ h => h) (Or.inl ⟨by rfl, ?_⟩) hHeld ?_
      rotate_left
      · intro w hSw; (try dsimp only at hSw); first | (go_simp; done) | (go_simp; with_reducible rfl)
      try simp only [Act.put, List.setIfInBounds_toArray, List.set_cons_zero, List.set_cons_succ, List.getElem_toArray, List.getElem_cons_zero, List.getElem_cons_succ]
      refine wpAnyH_done (by kernel_rfl) ?_ _
      have hE := hSz.2.2.2
      have hB9w := hB6w.trans (hE.mono hB6w.size)
      have hset9 := hset6.on hE
      clear hHeld hSz hSy hSd hBy hBz hKeep hc1 hc2 hCC kF6 kW kD6 hset6 hE hB6w
      have hcats := setCats_any _ wz hset9 (hw.on hB9w)
      go_wp2_with fail
      refine hcats.mono ?_
      rintro e w10 ⟨⟨ab, acap, rfl, hab, hacap, hcell⟩, hB10⟩
      have hBew := hB9w.trans (hB10.mono hB9w.size)
      have HBE := Lib.hid hBew
      obtain ⟨L, hL⟩ : ∃ L, six.filter (keepB (rlsOf l)) = L := ⟨_, rfl⟩
      have HLL := Lib.hid hL
      rw [hL] at hcell hacap
      rw [hL]
      obtain ⟨N, hN⟩ : ∃ N, L.length = N := ⟨_, rfl⟩
      have HNN := Lib.hid hN
      have HCELL := Lib.hid hcell
      rw [hN]
      clear hcats hset9 hB9w hB10 hBew hL hN hcell hacap
      go_wp2_with fail
      go_loopg [8, 50] 7 (fun f s8 s50 wx => ∃ i : Nat, s8 = .int .i64 (((six.take i).filter (keepB (rlsOf l))).length : Int) ∧ s50 = .int .i64 (i : Int) ∧ f + i = 7 ∧ i ≤ 6 ∧ w10 = wx)
      case atStart => exact ⟨0, rfl, rfl, rfl, Nat.zero_le _, rfl⟩
      case round =>
        obtain ⟨i, rfl, rfl, hg, hi, rfl⟩ := hrel
        have HG := Lib.hid hg
        have hi0 : (0 : Int) ≤ i := by omega
        have f1 : IntKind.i64.wrap ((i : Int) + 1) = (i : Int) + 1 := IntWalk.i64_in _ (by omega)
        obtain ⟨m, hm⟩ : ∃ m, ((six.take i).filter (keepB (rlsOf l))).length = m := ⟨_, rfl⟩
        have hm6 : m ≤ 6 := by
          rw [← hm]
          refine Nat.le_trans (List.length_filter_le _ _) ?_
          rw [List.length_take]
          exact Nat.le_trans (Nat.min_le_right _ _) (Nat.le_refl _)
        have f2 : IntKind.i64.wrap ((m : Int) + 1) = (m : Int) + 1 := IntWalk.i64_in _ (by omega)
        have HM := Lib.hid hm
        rw [hm]
        by_cases hlt : i < 6
        · have hiI : (i : Int) < 6 := by omega
          have hi6 : i < six.length := hlt
          have hnm := rName_any (i : Int) w10
          have hsx := six_name i hi6
          obtain ⟨NM, hNM⟩ : ∃ x, nameB (i : Int) = x := ⟨_, rfl⟩
          rw [hNM] at hnm hsx
          have hno := name_other i hlt
          rw [hNM] at hno
          have HLT := Lib.hid hlt; have HSX := Lib.hid hsx
          have hfd := rFind_any (.slice va l.length vcap) l NM w10 (HV.out.on HBE.out).1 HL.out
          obtain ⟨F, hF⟩ : ∃ F, fdL NM l 0 = F := ⟨_, rfl⟩
          rw [hF] at hfd
          have HF := Lib.hid hF
          clear hNM hF hg hi hm hlt
          by_cases hk : keepB (rlsOf l) NM = true
          · obtain ⟨h1, h2, h3⟩ := filter_take hi6 (p := keepB (rlsOf l)) (by rw [HSX.out]; exact hk)
            rw [HM.out, HLL.out] at h1
            rw [HM.out] at h2
            rw [HM.out, HLL.out, HNN.out] at h3
            have hmL : m < L.length := by rw [HNN.out]; exact h3
            have hce := HCELL.out m hmL
            rw [List.getElem?_eq_getElem hmL, HSX.out] at h1
            rw [Option.some.inj h1] at hce
            have H2 := Lib.hid h2
            have hmI : (m : Int) < N := by omega
            have hmN : ¬ (N : Int) ≤ m := by omega
            have hm0 : (0 : Int) ≤ m := by omega
            have hNN : (NM.toList == NM.toList) = true := by simp
            by_cases h5 : i = 5
            · have h5I : ¬ (i : Int) < 5 := by omega
              clear h1 h2 h3 hmL hno hk h5 hsx
              go_wp2_with fail
              refine hnm.mono ?_
              rintro e w' ⟨rfl, rfl⟩
              go_wp2_with fail
              go_roundg (6 - i)
              case rel => exact ⟨i + 1, by rw [H2.out]; simp, by simp, by have := HG.out; have := HLT.out; omega, HLT.out, rfl⟩
              case measure => have := HG.out; have := HLT.out; omega
            · have h5I : (i : Int) < 5 := by omega
              have hF0 : ¬ F < 0 := fun h => by
                have hnn := rlsOf_none (l := l) (s := NM) (by rw [HF.out]; exact h)
                unfold keepB at hk
                rw [hnn, decide_eq_false (fun e => h5 (hno.1 e))] at hk
                cases hk
              have hF0d : decide (F < 0) = false := by simpa using hF0
              clear h1 h2 h3 hmL hno hk h5 hsx
              go_wp2_with fail
              refine hnm.mono ?_
              rintro e w' ⟨rfl, rfl⟩
              go_wp2_with fail
              refine hfd.mono ?_
              rintro e w' ⟨rfl, rfl⟩
              go_wp2_with fail
              go_roundg (6 - i)
              case rel => exact ⟨i + 1, by rw [H2.out]; simp, by simp, by have := HG.out; have := HLT.out; omega, HLT.out, rfl⟩
              case measure => have := HG.out; have := HLT.out; omega
          · have hk : keepB (rlsOf l) NM = false := by simpa using hk
            have h5 : i ≠ 5 := fun e => by
              unfold keepB at hk
              rw [decide_eq_true (hno.2 e)] at hk
              cases hk
            have h5I : (i : Int) < 5 := by have := HLT.out; omega
            have hF0 : F < 0 := by
              by_cases h : fdL NM l 0 < 0
              · rw [HF.out] at h; exact h
              · obtain ⟨_, _, rows, _, _, _, _, _, h2⟩ := rlsOf_some HOK.out h
                unfold keepB at hk
                rw [h2] at hk
                simp at hk
            have h2 := filter_skip hi6 (p := keepB (rlsOf l)) (by rw [HSX.out]; exact hk)
            rw [HM.out] at h2
            have H2 := Lib.hid h2
            clear h2 hno hk h5 hsx
            go_wp2_with fail
            refine hnm.mono ?_
            rintro e w' ⟨rfl, rfl⟩
            go_wp2_with fail
            refine hfd.mono ?_
            rintro e w' ⟨rfl, rfl⟩
            go_wp2_with fail
            go_roundg (6 - i)
            case rel => exact ⟨i + 1, by rw [H2.out], by simp, by have := HG.out; have := HLT.out; omega, HLT.out, rfl⟩
            case measure => have := HG.out; have := HLT.out; omega
        · have hiI : ¬ (i : Int) < 6 := by omega
          obtain rfl : i = 6 := by omega
          have hmN : m = N := by
            rw [← HM.out, ← HNN.out, ← HLL.out]
            rfl
          subst hmN
          clear hlt hg hi hm
          go_wp2_with fail
          go_ret
          exact ⟨by simp, HBE.out⟩
    · obtain ⟨⟨fa, fat⟩, hff⟩ : ∃ x, faL l l 0 = x := ⟨_, rfl⟩
      rw [hff] at hfa
      simp only at hfa
      rw [hff]
      simp only
      have hA4 := (Below.refl w3.heap.size w3).alloc (Nat.le_refl _) (.cells #[.int .i64 fa, .int .i64 fat] 42)
      have kF := Blk.new w3 #[.int .i64 fa, .int .i64 fat] 42
      have hB4w := hB3w.trans (hA4.mono hB3w.size)
      have hrf := rFault_any _ l _ (HV.out.on hB4w).1 HL.out
      rw [hff] at hrf
      simp only at hrf
      have hfab : (fa == 0) = false := by simpa using hfa
      have hfe : (fa == fa) = true := by simp
      have hfe2 : (fat == fat) = true := by simp
      clear hA4 kD3 hB3w hff hfa
      go_wp2_with fail
      generalize w3.alloc (.cells #[.int .i64 fa, .int .i64 fat] 42) = w4 at *
      refine hrf.mono ?_
      rintro e w5 ⟨rfl, hB5⟩
      have hA6 := (Below.refl w5.heap.size w5).alloc (Nat.le_refl _) (.cells #[.int .i64 fa, .int .i64 fat] 42)
      have kW := Blk.new w5 #[.int .i64 fa, .int .i64 fat] 42
      have hB56 := hB5.trans (hA6.mono hB5.size)
      have hB6w := hB4w.trans (hB56.mono hB4w.size)
      have kF6 := kF.on hB56
      have wc := kW.cell
      have fc := kF6.cell
      clear hrf hB5 hA6 hB56 hB4w kF
      go_wp2_with fail
      go_ret
      exact ⟨rfl, hB6w⟩
end

section
open Go.RowKit Go.ChangeShapes Go.WideShapes Go.Deep Go.Lib

theorem laidOut' : laidOutB Tryz.prog = true := by kernel_rfl
theorem weights_slice {H : Type} {P : Program} {t e : TypeId} {elems spare : List (DataW H)} (hu : P.underlying t = some (.slice e)) : (DataW.slice elems spare).weights P t = (elems.length + spare.length) * P.bytesOf e :: (DataW.weightsAll P e elems ++ DataW.weightsAll P e spare) := by
  simp only [DataW.weights, hu]
set_option maxRecDepth 100000 in
theorem open_strP {H : Type} {enc : TypeId × Value → H} {W : World} {base b0 : Nat} {held : Bool} {v : Value} {d : DataW H} {p : List MemPlace} (hv : Value.okWide Tryz.prog W .any b0 39 v) (h : DataW.Trod enc Tryz.prog W base (fun _ => true) held 39 v d p) (hw : ∀ n ∈ d.weights Tryz.prog 39, n ≤ 140737488351232) :
    ∃ l, PaArg W v l ∧ True := by
  obtain ⟨a, len, cap, rfl⟩ := okWide_slice Tryz.underlying39 hv
  obtain ⟨n, hn⟩ := h
  rcases open_slice Tryz.underlying39 hn with ⟨hcs, _⟩ | ⟨a', len', cap', m, n', D, Pl, hcs, _, hl, hm, hmm, hx, hi⟩
  · simp [Value.cells] at hcs
    obtain ⟨rfl, rfl, rfl⟩ := hcs
    exact ⟨[], ⟨⟨none, 0, rfl, Nat.le_refl _, Nat.zero_le _, fun j hj => absurd hj (by simp)⟩, none, 0, rfl, fun _ => ⟨rfl, rfl⟩⟩, trivial⟩
  · simp [Value.cells] at hcs
    obtain ⟨rfl, rfl, rfl⟩ := hcs
    simp only [if_true] at hmm
    obtain rfl : cap = m := hmm.symm
    simp only [Prod.mk.injEq] at hx
    obtain ⟨rfl, _⟩ := hx
    rw [weights_slice Tryz.underlying39] at hw
    have hlw := hw _ (List.mem_cons_self)
    rw [show Tryz.prog.bytesOf 78 = 32 by kernel_rfl] at hlw
    simp at hlw
    have hcap : cap ≤ maxLen := by unfold maxLen; omega
    have hsp : 0 < len → a'.spot = none := by
      intro h0
      obtain ⟨cs', h1, _⟩ := hi 0 (by omega)
      rw [show Tryz.prog.cellsOf 78 = 2 by kernel_rfl] at h1
      obtain ⟨_, hcl, hg⟩ := World.cells?_some h1
      match cs', hcl with
      | [v0, v1], _ =>
        have g0 : W.cell? ((a'.add (0 * 2)).add 0) = some v0 := hg 0 (by omega)
        simpa [Addr.add] using World.cell?_spot g0
    have hC : ∀ i, i < len → ∃ x : Pr2, W.cell? (a'.add (i * 2)) = some (.string x.1) ∧ W.cell? (a'.add (i * 2 + 1)) = some (.string x.2) := by
      intro i hil
      obtain ⟨cs', h1, h2⟩ := hi i (by omega)
      rw [show Tryz.prog.cellsOf 78 = 2 by kernel_rfl] at h1
      obtain ⟨_, hcl, hg⟩ := World.cells?_some h1
      obtain ⟨y0, y1, n2, hy, _, t0, t1⟩ := trod_struct2 Tryz.underlying78 h2
      match cs', hcl with
      | [v0, v1], _ =>
        replace t0 : DataW.trod enc Tryz.prog W base (fun _ => true) held n2 9 [v0] = some y0 := t0
        replace t1 : DataW.trod enc Tryz.prog W base (fun _ => true) held n2 9 [v1] = some y1 := t1
        obtain ⟨z0, e0, _, _⟩ := DataW.trod_string Tryz.underlying9 t0
        obtain ⟨z1, e1, _, _⟩ := DataW.trod_string Tryz.underlying9 t1
        have e0 : v0 = .string z0 := by simpa using e0
        have e1 : v1 = .string z1 := by simpa using e1
        subst e0 e1
        have g0 := hg 0 (by omega)
        have g1 := hg 1 (by omega)
        have hsp := hsp (by omega)
        clear hi h1 hg
        obtain ⟨b, off, sp⟩ := a'
        subst hsp
        simp only [Lib.add_plain] at g0 g1 ⊢
        exact ⟨(z0, z1), g0, g1⟩
    obtain ⟨f, hf⟩ := choose_lt (α := Pr2) hC
    refine ⟨(List.range len).map f, ⟨⟨some a', cap, by simp, by simp; omega, hcap, fun j hj => ?_⟩, some a', cap, by simp, fun h => by cases h⟩, trivial⟩
    have hj' : j < len := by simpa using hj
    obtain ⟨b, off, sp⟩ := a'
    have h := hf j hj'
    have hspot : sp = none := hsp (by omega)
    subst hspot
    rw [Lib.add_plain, Lib.add_plain] at h
    refine ⟨b, off, rfl, World.block_lt_of_cell? _ _ h.1, ?_, ?_⟩
    · simpa using h.1
    · simpa [Nat.add_assoc] using h.2
end
end Go.Proofs.YtgbemhehbhlgpaaGreatDoor
