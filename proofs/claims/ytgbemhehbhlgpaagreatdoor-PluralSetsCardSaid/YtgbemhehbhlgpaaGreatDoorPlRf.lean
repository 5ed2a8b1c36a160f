/-
  Rules for numbers, the document's answer: a rule is read as plural reads it.
-/
import Derived.Test.YtgbemhehbhlgpaaGreatDoorPlRe
namespace Go.Proofs.YtgbemhehbhlgpaaGreatDoor
open Go.RowKit Go.PlainAid

abbrev SlT := Option Addr × Nat × Nat
def RlE : ETy (Int × Nat × Bool × SlT × SlT) where
  T := 86
  ST := 83
  sz := 5
  bs := 72
  z := .agg #[.int .u8 0, .int .i64 0, .bool false, .slice none 0 0, .slice none 0 0]
  enc := fun x => [.int .u8 x.1, .int .i64 (x.2.1 : Int), .bool x.2.2.1, .slice x.2.2.2.1.1 x.2.2.2.1.2.1 x.2.2.2.1.2.2, .slice x.2.2.2.2.1 x.2.2.2.2.2.1 x.2.2.2.2.2.2]
  hsz := by decide
  hbs := by decide
  hlen := fun _ => rfl
  hz := rfl
  info := by kernel_rfl
  und := Tryz.underlying83
  hone := fun _ => by simp [Value.oneCell']
def RrE : ETy SlT where
  T := 83
  ST := 49
  sz := 1
  bs := 24
  z := .slice none 0 0
  enc := fun x => [.slice x.1 x.2.1 x.2.2]
  hsz := by decide
  hbs := by decide
  hlen := fun _ => rfl
  hz := rfl
  info := by kernel_rfl
  und := Tryz.underlying49
  hone := fun _ => by simp [Value.oneCell']

/-- A rule that is being read: the result's place, the rule, its rows, the row under way. -/
structure PQ (w w2 : World) (av allv : Value) (ys : List SlT) (xs : List (Int × Nat × Bool × SlT × SlT)) (X : ByteArray) (W : World) : Prop where
  res : Blk W w.heap.size #[.slice none 0 0, .string ⟨#[]⟩, .int .i64 0]
  out : Blk W w2.heap.size #[av, .string X, .int .i64 (-1)]
  any : GRow RrE (w2.heap.size + 1) W av ys
  all : GRow RlE (w2.heap.size + 1) W allv xs
  bel : Below w.heap.size w W
  bel2 : Below w2.heap.size w2 W
  lt : w.heap.size < w2.heap.size
  ge : w2.heap.size + 1 ≤ W.heap.size
section
variable {w w2 W : World} {av allv : Value} {ys : List SlT} {xs : List (Int × Nat × Bool × SlT × SlT)} {X : ByteArray}
theorem PQ.on (h : PQ w w2 av allv ys xs X W) {W' : World} (hB : Below W.heap.size W W') : PQ w w2 av allv ys xs X W' :=
  ⟨h.res.on hB, h.out.on hB, h.any.on hB, h.all.on hB, h.bel.trans (hB.mono h.bel.size), h.bel2.trans (hB.mono h.bel2.size), h.lt, Nat.le_trans h.ge hB.size⟩
theorem PQ.apart (h : PQ w w2 av allv ys xs X W) (g : Nat) (h1 : av.ownBlock = some g) (h2 : allv.ownBlock = some g) : False := by
  obtain ⟨c, h1⟩ := h.any.kind g h1
  obtain ⟨c', h2⟩ := h.all.kind g h2
  rw [h1] at h2
  injection h2 with h2
  injection h2 with _ h2
  exact absurd h2 (by decide)
theorem PQ.growAll (h : PQ w w2 av allv ys xs X W) {w' : World} {v' : Value} {x : Int × Nat × Bool × SlT × SlT} (hrow : GRow RlE (w2.heap.size + 1) w' v' (xs ++ [x])) (hg : W.grownBy w' allv.ownBlock) : PQ w w2 av v' ys (xs ++ [x]) X w' := by
  have hown := h.all.own
  have hlt := h.lt
  have hge := h.ge
  exact ⟨blk_grown hg h.res (fun e => by have := hown _ e; omega), blk_grown hg h.out (fun e => by have := hown _ e; omega), row_grown hg h.any (fun g hg' e => h.apart g hg' e), hrow,
    h.bel.grown hg (by omega) (fun k hk => by have := hown k hk; omega), h.bel2.grown hg (by omega) (fun k hk => by have := hown k hk; omega), hlt, Nat.le_trans hge hg.size⟩
theorem PQ.growAny (h : PQ w w2 av allv ys xs X W) {w' : World} {v' : Value} {y : SlT} (hrow : GRow RrE (w2.heap.size + 1) w' v' (ys ++ [y])) (hg : W.grownBy w' av.ownBlock) : PQ w w2 v' allv (ys ++ [y]) xs X (w'.setCell ⟨w2.heap.size, 0, none⟩ v') := by
  have hown := h.any.own
  have hlt := h.lt
  have hge := h.ge
  exact ⟨(blk_grown hg h.res (fun e => by have := hown _ e; omega)).other _ _ _ (by omega), (blk_grown hg h.out (fun e => by have := hown _ e; omega)).set 0 v', hrow.set _ _ _ (by omega), (row_grown hg h.all (fun g hg' e => h.apart g e hg')).set _ _ _ (by omega),
    (h.bel.grown hg (by omega) (fun k hk => by have := hown k hk; omega)).setCell (p := ⟨w2.heap.size, 0, none⟩) (by show w.heap.size ≤ w2.heap.size; omega) _, (h.bel2.grown hg (by omega) (fun k hk => by have := hown k hk; omega)).setCell (p := ⟨w2.heap.size, 0, none⟩) (Nat.le_refl _) _, hlt, by have := hg.size; simp; omega⟩
theorem PQ.text (h : PQ w w2 av allv ys xs X W) (X' : ByteArray) : PQ w w2 av allv ys xs X' (W.setCell ⟨w2.heap.size, 1, none⟩ (.string X')) := by
  have hlt := h.lt
  exact ⟨h.res.other _ _ _ (by omega), h.out.set 1 _, h.any.set _ _ _ (by omega), h.all.set _ _ _ (by omega), h.bel.setCell (p := ⟨w2.heap.size, 1, none⟩) (by show w.heap.size ≤ w2.heap.size; omega) _, h.bel2.setCell (p := ⟨w2.heap.size, 1, none⟩) (Nat.le_refl _) _, hlt, by simpa using h.ge⟩
theorem PQ.nil (h : PQ w w2 av allv ys xs X W) : PQ w w2 av (.slice none 0 0) ys [] X W := ⟨h.res, h.out, h.any, GRow.nil _ _ _, h.bel, h.bel2, h.lt, h.ge⟩
/-- The result is written. -/
theorem PQ.fin (h : PQ w w2 av allv ys xs X W) (a b c : Value) : ∃ W', ((W.setCell ⟨w.heap.size, 0, none⟩ a).setCell ⟨w.heap.size, 1, none⟩ b).setCell ⟨w.heap.size, 2, none⟩ c = W' ∧ Blk W' w.heap.size #[a, b, c] ∧ Below w.heap.size w W' :=
  ⟨_, rfl, ((h.res.set 0 a).set 1 b).set 2 c, ((h.bel.setCell (p := ⟨w.heap.size, 0, none⟩) (Nat.le_refl _) _).setCell (p := ⟨w.heap.size, 1, none⟩) (Nat.le_refl _) _).setCell (p := ⟨w.heap.size, 2, none⟩) (Nat.le_refl _) _⟩
end
abbrev RlT := Int × Nat × Bool × SlT × SlT
/-- A relation with its ranges in memory, in blocks of their own. -/
def RelK (base : Nat) (W : World) (x : RlT) (r : Rl) : Prop :=
  x.1 = r.op ∧ x.2.1 = r.by_ ∧ x.2.2.1 = r.nt ∧ GRow I64E base W (.slice x.2.2.2.1.1 x.2.2.2.1.2.1 x.2.2.2.1.2.2) (r.rs.map (·.1)) ∧ GRow I64E base W (.slice x.2.2.2.2.1 x.2.2.2.2.2.1 x.2.2.2.2.2.2) (r.rs.map (·.2))
theorem RelK.later {base : Nat} {W W' : World} {x : RlT} {r : Rl} (h : RelK base W x r) (hk : ∀ g c, base ≤ g → W.heap[g]? = some (.cells c I64E.T (0, 0)) → W'.heap[g]? = W.heap[g]?) : RelK base W' x r := by
  obtain ⟨h1, h2, h3, h4, h5⟩ := h
  refine ⟨h1, h2, h3, h4.later fun g hg => ?_, h5.later fun g hg => ?_⟩
  · obtain ⟨c, hc⟩ := h4.kind g hg
    exact hk g c (h4.own g hg) hc
  · obtain ⟨c, hc⟩ := h5.kind g hg
    exact hk g c (h5.own g hg) hc
/-- A row of relations that is done. -/
def RowK (base b1 : Nat) (W : World) (y : SlT) (rs : List Rl) : Prop :=
  ∃ zs : List RlT, GRow RlE base W (.slice y.1 y.2.1 y.2.2) zs ∧ (∀ g, (Value.slice y.1 y.2.1 y.2.2).ownBlock = some g → g < b1) ∧ zs.length = rs.length ∧ ∀ i (hi : i < zs.length) (hr : i < rs.length), RelK base W zs[i] rs[i]
/-- The relations that have been read. -/
structure PR (base b1 : Nat) (allv : Value) (xs : List RlT) (ys : List SlT) (done : List (List Rl)) (cur : List Rl) (W : World) : Prop where
  all : GRow RlE b1 W allv xs
  lo : base ≤ b1
  hi : b1 ≤ W.heap.size
  len1 : xs.length = cur.length
  rel : ∀ i (hi : i < xs.length) (hr : i < cur.length), RelK base W xs[i] cur[i]
  len2 : ys.length = done.length
  fin : ∀ i (hi : i < ys.length) (hr : i < done.length), RowK base b1 W ys[i] done[i]
/-- Blocks from one on are as they were, but for rows of rows. -/
def KpN (base : Nat) (W W' : World) : Prop := W.heap.size ≤ W'.heap.size ∧ ∀ g c T, base ≤ g → W.heap[g]? = some (.cells c T (0, 0)) → T ≠ RrE.T → W'.heap[g]? = W.heap[g]?
theorem KpN.of {base : Nat} {W W' : World} (h : Below W.heap.size W W') : KpN base W W' := ⟨h.size, fun g _ _ _ hg _ => h.block g (lt_some hg)⟩
theorem KpN.set {base : Nat} {W : World} (c i : Nat) (v : Value) (hc : c < base) : KpN base W (W.setCell ⟨c, i, none⟩ v) := ⟨by simp, fun g _ _ hb _ _ => Below.heap_setCell _ _ _ _ (by show g ≠ c; omega)⟩
theorem KpN.grown {base : Nat} {W W' : World} {av : Value} {b : Nat} {ys : List SlT} (hv : GRow RrE b W av ys) (hg : W.grownBy W' av.ownBlock) : KpN base W W' := ⟨hg.size, fun g c T _ h hT => hg.block g (lt_some h) (fun e => by
  obtain ⟨c', hc⟩ := hv.kind g e.symm
  rw [h] at hc
  injection hc with hc
  injection hc with _ hc
  exact hT hc)⟩
theorem RowK.keep {base b1 : Nat} {W W' : World} {y : SlT} {rs : List Rl} (h : RowK base b1 W y rs) (hk : KpN base W W') : RowK base b1 W' y rs := by
  obtain ⟨zs, h1, h2, h3, h4⟩ := h
  refine ⟨zs, h1.later fun g hg => ?_, h2, h3, fun i hi hr => (h4 i hi hr).later fun g c hb hg => hk.2 g c _ hb hg (by decide)⟩
  obtain ⟨c, hc⟩ := h1.kind g hg
  exact hk.2 g c _ (h1.own g hg) hc (by decide)
theorem PR.keep {base b1 : Nat} {allv : Value} {xs : List RlT} {ys : List SlT} {done : List (List Rl)} {cur : List Rl} {W W' : World} (h : PR base b1 allv xs ys done cur W) (hk : KpN base W W') : PR base b1 allv xs ys done cur W' := by
  refine ⟨h.all.later fun g hg => ?_, h.lo, Nat.le_trans h.hi hk.1, h.len1, fun i hi hr => (h.rel i hi hr).later fun g c hb hg => hk.2 g c _ hb hg (by decide), h.len2, fun i hi hr => (h.fin i hi hr).keep hk⟩
  obtain ⟨c, hc⟩ := h.all.kind g hg
  exact hk.2 g c _ (Nat.le_trans h.lo (h.all.own g hg)) hc (by decide)
theorem PR.growAll {base b1 : Nat} {allv v' : Value} {xs : List RlT} {x : RlT} {ys : List SlT} {done : List (List Rl)} {cur : List Rl} {r : Rl} {W w' : World} (h : PR base b1 allv xs ys done cur W) (hrow : GRow RlE b1 w' v' (xs ++ [x])) (hg : W.grownBy w' allv.ownBlock) (hx : RelK base W x r) :
    PR base b1 v' (xs ++ [x]) ys done (cur ++ [r]) w' := by
  have hkI : ∀ g c, base ≤ g → W.heap[g]? = some (.cells c I64E.T (0, 0)) → w'.heap[g]? = W.heap[g]? := fun g c _ hc => hg.block g (lt_some hc) (fun e => by
    obtain ⟨c', hc'⟩ := h.all.kind g e.symm
    rw [hc] at hc'
    injection hc' with hc'
    injection hc' with _ hc'
    exact absurd hc' (by decide))
  have hl : (xs ++ [x]).length = (cur ++ [r]).length := by rw [List.length_append, List.length_append, h.len1]; rfl
  refine ⟨hrow, h.lo, Nat.le_trans h.hi hg.size, hl, fun i hi hr => ?_, h.len2, fun i hi hr => ?_⟩
  · by_cases e : i < xs.length
    · have e1 : (xs ++ [x])[i] = xs[i] := List.getElem_append_left e
      have e2 : (cur ++ [r])[i] = cur[i]'(by have := h.len1; omega) := List.getElem_append_left (by have := h.len1; omega)
      rw [e1, e2]
      exact (h.rel i e _).later hkI
    · have hi' : i = xs.length := by rw [List.length_append] at hi; have : [x].length = 1 := rfl; omega
      have e1 : (xs ++ [x])[i] = x := by simp [hi']
      have e2 : (cur ++ [r])[i] = r := by simp [hi', h.len1]
      rw [e1, e2]
      exact hx.later hkI
  · obtain ⟨zs, k1, k2, k3, k4⟩ := h.fin i hi hr
    exact ⟨zs, k1.later fun g hv => hg.block g (k1.lt g hv) (fun e => by have h1 := h.all.own g e.symm; have h2 := k2 g hv; omega), k2, k3, fun k hk hkr => (k4 k hk hkr).later hkI⟩
/-- The row under way is put behind those that are done. -/
theorem PR.push {base b1 : Nat} {y : SlT} {xs : List RlT} {ys : List SlT} {done : List (List Rl)} {cur : List Rl} {W : World} (h : PR base b1 (.slice y.1 y.2.1 y.2.2) xs ys done cur W) : PR base W.heap.size (.slice none 0 0) [] (ys ++ [y]) (done ++ [cur]) [] W := by
  refine ⟨GRow.nil _ _ _, Nat.le_trans h.lo h.hi, Nat.le_refl _, rfl, fun i hi => absurd hi (by simp), by rw [List.length_append, List.length_append, h.len2]; rfl, fun i hi hr => ?_⟩
  by_cases e : i < ys.length
  · have e1 : (ys ++ [y])[i] = ys[i] := List.getElem_append_left e
    have e2 : (done ++ [cur])[i] = done[i]'(by have := h.len2; omega) := List.getElem_append_left (by have := h.len2; omega)
    rw [e1, e2]
    obtain ⟨zs, k1, k2, k3, k4⟩ := h.fin i e (by have := h.len2; omega)
    exact ⟨zs, k1, fun g hg => Nat.lt_of_lt_of_le (k2 g hg) h.hi, k3, k4⟩
  · have hi' : i = ys.length := by rw [List.length_append] at hi; have : [y].length = 1 := rfl; omega
    have e1 : (ys ++ [y])[i] = y := by simp [hi']
    have e2 : (done ++ [cur])[i] = cur := by simp [hi', h.len2]
    rw [e1, e2]
    exact ⟨xs, h.all.mono h.lo, fun g hg => h.all.lt g hg, h.len1, h.rel⟩
/-- A relation, a row, rows, as they are read. -/
def RelA (W : World) (x : RlT) (r : Rl) : Prop :=
  x.1 = r.op ∧ x.2.1 = r.by_ ∧ x.2.2.1 = r.nt ∧ GAt I64E W (.slice x.2.2.2.1.1 x.2.2.2.1.2.1 x.2.2.2.1.2.2) (r.rs.map (·.1)) ∧ GAt I64E W (.slice x.2.2.2.2.1 x.2.2.2.2.2.1 x.2.2.2.2.2.2) (r.rs.map (·.2))
def RowA (W : World) (y : SlT) (rs : List Rl) : Prop := ∃ zs : List RlT, GAt RlE W (.slice y.1 y.2.1 y.2.2) zs ∧ zs.length = rs.length ∧ ∀ i (hi : i < zs.length) (hr : i < rs.length), RelA W zs[i] rs[i]
def AnyA (W : World) (v : Value) (rows : List (List Rl)) : Prop := ∃ ys : List SlT, GAt RrE W v ys ∧ ys.length = rows.length ∧ ∀ i (hi : i < ys.length) (hr : i < rows.length), RowA W ys[i] rows[i]
theorem RelA.on {W W' : World} {x : RlT} {r : Rl} (h : RelA W x r) (hB : Below W.heap.size W W') : RelA W' x r := ⟨h.1, h.2.1, h.2.2.1, h.2.2.2.1.on hB, h.2.2.2.2.on hB⟩
theorem RowA.on {W W' : World} {y : SlT} {rs : List Rl} (h : RowA W y rs) (hB : Below W.heap.size W W') : RowA W' y rs := by
  obtain ⟨zs, h1, h2, h3⟩ := h
  exact ⟨zs, h1.on hB, h2, fun i hi hr => (h3 i hi hr).on hB⟩
theorem AnyA.on {W W' : World} {v : Value} {rows : List (List Rl)} (h : AnyA W v rows) (hB : Below W.heap.size W W') : AnyA W' v rows := by
  obtain ⟨ys, h1, h2, h3⟩ := h
  exact ⟨ys, h1.on hB, h2, fun i hi hr => (h3 i hi hr).on hB⟩
theorem RelK.a {base : Nat} {W : World} {x : RlT} {r : Rl} (h : RelK base W x r) : RelA W x r := ⟨h.1, h.2.1, h.2.2.1, h.2.2.2.1.at', h.2.2.2.2.at'⟩
theorem PR.a {base b1 b : Nat} {allv av : Value} {xs : List RlT} {ys : List SlT} {done : List (List Rl)} {cur : List Rl} {W : World} (h : PR base b1 allv xs ys done cur W) (hv : GRow RrE b W av ys) : AnyA W av done :=
  ⟨ys, hv.at', h.len2, fun i hi hr => by
    obtain ⟨zs, k1, _, k3, k4⟩ := h.fin i hi hr
    exact ⟨zs, k1.at', k3, fun k hk hkr => (k4 k hk hkr).a⟩⟩
/-- How the joint ahead of a relation tells where it goes. -/
def JnA (j : ByteArray) (any done : List (List Rl)) (cur : List Rl) : Prop := (j = orB ∧ any = done ∧ cur = []) ∨ (j = andB ∧ any = done ++ [cur])
theorem JnA.stp {j : ByteArray} {any done : List (List Rl)} {cur : List Rl} (h : JnA j any done cur) (r : Rl) : stp any (j, r) = done ++ [cur ++ [r]] := by
  rcases h with ⟨rfl, rfl, rfl⟩ | ⟨rfl, rfl⟩
  · unfold Proofs.YtgbemhehbhlgpaaGreatDoor.stp putRow
    rw [if_pos rfl]
    simp
  · unfold Proofs.YtgbemhehbhlgpaaGreatDoor.stp putRow
    rw [if_neg (show ¬ andB = orB by decide)]
    simp
def RParse (w : World) (s : ByteArray) (e : Ending) (w' : World) : Prop :=
  (match ruleP s with
    | .bad p => e = .returned (.agg #[.slice none 0 0, .string ⟨#[]⟩, .int .i64 ((p : Nat) : Int)])
    | .ok _ rows t => ∃ a n c, e = .returned (.agg #[.slice a n c, .string t, .int .i64 (-1)]) ∧ AnyA w' (.slice a n c) rows) ∧ Below w.heap.size w w'
theorem rule_bad {s : ByteArray} {f a p : Nat} {any : List (List Rl)} {X j : ByteArray} (h : relR s a ⟨#[]⟩ = .bad p) : ruleF s (f + 1) a any X j = .bad p := by
  have e := relR_pre (s := s) (u := jointT X j) (a := a) (t := ⟨#[]⟩)
  rw [show jointT X j ++ ⟨#[]⟩ = jointT X j from ByteArray.append_empty, h] at e
  have e : relR s a (jointT X j) = .bad p := e
  simp only [ruleF, e]
theorem rule_ok {s : ByteArray} {f a p : Nat} {any : List (List Rl)} {X j t : ByteArray} {r : Rl} (h : relR s a ⟨#[]⟩ = .ok p r t) : relR s a (jointT X j) = .ok p r (jointT X j ++ t) ∧ ruleF s (f + 1) a any X j = goOn s f p (stp any (j, r)) (jointT X j ++ t) := by
  have e := relR_pre (s := s) (u := jointT X j) (a := a) (t := ⟨#[]⟩)
  rw [show jointT X j ++ ⟨#[]⟩ = jointT X j from ByteArray.append_empty, h] at e
  have e : relR s a (jointT X j) = .ok p r (jointT X j ++ t) := e
  exact ⟨e, ruleF_go e⟩

set_option maxRecDepth 100000 in
set_option maxHeartbeats 8000000 in
theorem rParse_any (s : ByteArray) (hs : s.size ≤ 4096) (w : World) : Calls Tryz.prog 24 #[.string s] w fun e w' => RParse w s e w' := by
  have hA1 := (Below.refl w.heap.size w).alloc (Nat.le_refl _) (.cells #[.slice none 0 0, .string ⟨#[]⟩, .int .i64 0] 51)
  have kR := Blk.new w #[.slice none 0 0, .string ⟨#[]⟩, .int .i64 0] 51
  have hT := rTokens_any s (by omega) (w.alloc (.cells #[.slice none 0 0, .string ⟨#[]⟩, .int .i64 0] 51))
  generalize hw1 : w.alloc (.cells #[.slice none 0 0, .string ⟨#[]⟩, .int .i64 0] 51) = w1 at *
  have z1 : w1.heap.size = w.heap.size + 1 := by rw [← hw1]; simp
  have HW1 := Lib.hid hw1
  have HS := Lib.hid hs
  clear hw1 hs
  go_enter Tryz.func24, Tryz.ntmps24
  go_upto_region 1 with fail
  rw [HW1.out]
  go_wp2_with fail
  refine hT.mono ?_
  rintro e w2 ⟨v, rfl, hrow, hB2⟩
  have hBw := hA1.trans (hB2.mono hA1.size)
  have hlen1 := tks_len s
  rcases hrow.read with ⟨hn, _⟩ | ⟨g, cap, rfl, hg1, hg2, _, _, hcell⟩
  · rw [hn] at hlen1
    simp at hlen1
  obtain ⟨L, hL⟩ : ∃ L, (tks s).length = L := ⟨_, rfl⟩
  have htk : ∀ q, q < L → ∀ W, Below w2.heap.size w2 W → W.cell? ⟨g, q * 2, none⟩ = some (.string (tx s (pos s q))) ∧ W.cell? ⟨g, q * 2 + 1, none⟩ = some (.int .i64 ((pos s q : Nat) : Int)) := fun q hq W hW => by
    have h := hcell q (by omega)
    rw [tks_at (by omega)] at h
    have h0 := h 0 (by decide)
    have h1 := h 1 (by decide)
    exact ⟨(hW.cell (p := ⟨g, q * 2, none⟩) hg2).trans h0, (hW.cell (p := ⟨g, q * 2 + 1, none⟩) hg2).trans h1⟩
  have hLb : L ≤ 4097 := by have := tks_le s; have := HS.out; omega
  rw [hL] at hlen1 ⊢
  have hA3 := (Below.refl w2.heap.size w2).alloc (Nat.le_refl _) (.cells #[.slice none 0 0, .string ⟨#[]⟩, .int .i64 (-1)] 51)
  have hP0 : PQ w w2 (.slice none 0 0) (.slice none 0 0) [] [] ⟨#[]⟩ (w2.alloc (.cells #[.slice none 0 0, .string ⟨#[]⟩, .int .i64 (-1)] 51)) :=
    ⟨(kR.on hB2).on hA3, Blk.new _ _ _, GRow.nil _ _ _, GRow.nil _ _ _, hBw.trans (hA3.mono hBw.size), hA3, by have := hB2.size; omega, by simp⟩
  have HM := Lib.hid (show ∀ q, q < L → (tx s (pos s q)).size ≠ 0 → q + 1 < L from fun q h1 h2 => by rw [← hL] at h1 ⊢; exact tks_more h1 h2)
  have HTK := Lib.hid htk; have HLL := Lib.hid hL; have HLB := Lib.hid hLb
  have c0 : (w2.alloc (.cells #[.slice none 0 0, .string ⟨#[]⟩, .int .i64 (-1)] 51)).cell? ⟨g, 0, none⟩ = some (.string (tx s (tkG s 0))) := by
    have h := (htk 0 (by omega) _ hA3).1
    rw [Nat.zero_mul] at h
    exact h
  have hLI : (0 : Int) < L := by omega
  have HL1 := Lib.hid hlen1
  obtain ⟨E0, hE0⟩ : ∃ E, tx s (tkG s 0) = E := ⟨_, rfl⟩
  rw [hE0] at c0
  have HE0 := Lib.hid hE0
  clear hT hA1 kR hrow hB2 hBw hcell hg1 htk hA3 hL hLb hlen1 hE0 hg2
  go_upto_region 3 with fail
  generalize w2.alloc (.cells #[.slice none 0 0, .string ⟨#[]⟩, .int .i64 (-1)] 51) = w3 at *
  have oc := hP0.out.cell
  have of_ := hP0.out.free
  have rc := hP0.res.cell
  have rf := hP0.res.free
  by_cases h0 : E0.size = 0
  · have hb0 : (E0.toList == []) = true := tl_yes (l := []) (ByteArray.ext (Array.eq_empty_of_size_eq_zero h0))
    have hru : ruleP s = .ok (tkG s 0) [[]] ⟨#[]⟩ := by unfold ruleP; rw [HE0.out, if_pos h0]
    have HRU := Lib.hid hru
    have hPa := (hP0.on ((Below.refl _ _).alloc (Nat.le_refl _) (.cells #[] 86))).on ((Below.refl _ _).alloc (Nat.le_refl _) (.cells #[.slice (some ⟨w3.heap.size, 0, none⟩) 0 0] 83))
    have ko := hPa.out.set 0 (.slice (some ⟨w3.heap.size + 1, 0, none⟩) 1 1)
    have kr := hPa.res.other w2.heap.size 0 (.slice (some ⟨w3.heap.size + 1, 0, none⟩) 1 1) (Nat.ne_of_lt hPa.lt)
    have hbl := hPa.bel.setCell (p := ⟨w2.heap.size, 0, none⟩) (Nat.le_of_lt hPa.lt) (.slice (some ⟨w3.heap.size + 1, 0, none⟩) 1 1)
    have k83 := (Blk.new' (w3.alloc (.cells #[] 86)) #[.slice (some ⟨w3.heap.size, 0, none⟩) 0 0] 83 (w3.heap.size + 1) (by simp)).other w2.heap.size 0 (.slice (some ⟨w3.heap.size + 1, 0, none⟩) 1 1) (by have := hP0.ge; omega)
    have hwne : w3.heap.size + 1 ≠ w.heap.size := by have := hP0.ge; have := hP0.lt; omega
    clear oc of_ rc rf
    have oc := hPa.out.cell
    have of_ := hPa.out.free
    clear h0 hru hP0 hPa
    go_upto_region 5 with fail
    generalize ((w3.alloc (.cells #[] 86)).alloc (.cells #[.slice (some ⟨w3.heap.size, 0, none⟩) 0 0] 83)).setCell ⟨w2.heap.size, 0, none⟩ (.slice (some ⟨w3.heap.size + 1, 0, none⟩) 1 1) = w5 at *
    clear oc of_
    have oc := ko.cell
    have rc := kr.cell
    have rf := kr.free
    go_wp2_with fail
    have kf : Blk _ _ #[Value.slice (some ⟨w3.heap.size + 1, 0, none⟩) 1 1, .string ⟨#[]⟩, .int .i64 (-1)] := ((kr.set 0 (.slice (some ⟨w3.heap.size + 1, 0, none⟩) 1 1)).set 1 (.string ⟨#[]⟩)).set 2 (.int .i64 (-1))
    have hbf := ((hbl.setCell (p := ⟨w.heap.size, 0, none⟩) (Nat.le_refl _) (.slice (some ⟨w3.heap.size + 1, 0, none⟩) 1 1)).setCell (p := ⟨w.heap.size, 1, none⟩) (Nat.le_refl _) (.string ⟨#[]⟩)).setCell (p := ⟨w.heap.size, 2, none⟩) (Nat.le_refl _) (.int .i64 (-1))
    have k84 := ((k83.other w.heap.size 0 (.slice (some ⟨w3.heap.size + 1, 0, none⟩) 1 1) hwne).other w.heap.size 1 (.string ⟨#[]⟩) hwne).other w.heap.size 2 (.int .i64 (-1)) hwne
    generalize ((w5.setCell ⟨w.heap.size, 0, none⟩ (.slice (some ⟨w3.heap.size + 1, 0, none⟩) 1 1)).setCell ⟨w.heap.size, 1, none⟩ (.string ⟨#[]⟩)).setCell ⟨w.heap.size, 2, none⟩ (.int .i64 (-1)) = w9 at *
    have hany : AnyA w9 (.slice (some ⟨w3.heap.size + 1, 0, none⟩) 1 1) [[]] := ⟨[(some ⟨w3.heap.size, 0, none⟩, 0, 0)], ⟨_, _, rfl, fun j hj => ⟨w3.heap.size + 1, 0, rfl, k84.lt, fun i hi => by
      have hj : j < 1 := hj
      have hi : i < 1 := hi
      obtain rfl : j = 0 := by omega
      obtain rfl : i = 0 := by omega
      exact k84.cell 0⟩⟩, rfl, fun i hi _ => by
      have hi : i < 1 := hi
      obtain rfl : i = 0 := by omega
      exact ⟨[], ⟨_, _, rfl, fun j hj => absurd hj (by simp)⟩, rfl, fun k hk => absurd hk (by simp)⟩⟩
    have r0 := kf.cell 0; have r1 := kf.cell 1; have r2 := kf.cell 2
    simp at r0 r1 r2
    refine bodyPost_ret (v := .agg #[.slice (some ⟨w3.heap.size + 1, 0, none⟩) 1 1, .string ⟨#[]⟩, .int .i64 (-1)]) (by simp [results, Tryz.results24, go_sem, r0, r1, r2]) rfl ⟨?_, hbf⟩
    rw [HRU.out]
    exact ⟨_, _, _, rfl, hany⟩
  · have hb0 : (E0.toList == []) = false := tl_no (fun e => h0 (by rw [e]; rfl))
    have hru : ruleP s = ruleF s (s.size + 1) (pos s 0) [] ⟨#[]⟩ orB := by unfold ruleP; rw [HE0.out, if_neg h0]; rfl
    have HRU := Lib.hid hru
    clear h0 hru oc of_ rc rf
    go_wp2_with fail
    go_loopg [5, 6] (s.size + 1) (fun f s5 s6 wr => ∃ (q : Nat) (X j : ByteArray) (any : List (List Rl)) (av : Value) (ys : List SlT) (xs : List RlT) (done : List (List Rl)) (cur : List Rl) (b1 : Nat), s5 = .int .i64 (q : Int) ∧ q < L ∧ ruleP s = ruleF s f (pos s q) any X j ∧ s.size < f + pos s q ∧ (jointT X j).size ≤ 3 * pos s q ∧ xs.length ≤ q ∧ ys.length ≤ q ∧ PQ w w2 av s6 ys xs (jointT X j) wr ∧ PR (w2.heap.size + 1) b1 s6 xs ys done cur wr ∧ JnA j any done cur)
    case atStart => exact ⟨0, ⟨#[]⟩, orB, [], _, [], [], [], [], w3.heap.size, rfl, HL1.out, HRU.out, by omega, by rw [jointT_nil]; exact Nat.zero_le _, Nat.zero_le _, Nat.zero_le _, by rw [jointT_nil]; exact hP0, ⟨GRow.nil _ _ _, hP0.ge, Nat.le_refl _, rfl, fun i hi => absurd hi (by simp), rfl, fun i hi => absurd hi (by simp)⟩, .inl ⟨rfl, rfl, rfl⟩⟩
    case round =>
      obtain ⟨q, X, j, any, av, ys, xs, done, cur, b1, rfl, hq, hru, hfu, hXz, hlx, hly, hP, hK, hjn⟩ := hrel
      have HJN := Lib.hid hjn
      clear hjn
      obtain ⟨va, vn, vc, rfl⟩ := hP.any.form'
      obtain ⟨la, ln, lc, rfl⟩ := hP.all.form'
      have hps := pos_in s q
      obtain ⟨f, hgk⟩ : ∃ f, gk = f + 1 := ⟨gk - 1, by omega⟩
      rw [hgk] at hru hfu
      have hlx9 : xs.length ≤ 100000000 := by have := HLB.out; omega
      have hly9 : ys.length ≤ 100000000 := by have := HLB.out; omega
      have hrl := rRel_any s HS.out L q HLL.out hq g cap wr (fun q' hq' W hW => (HTK.out q' hq' W (hP.bel2.trans (hW.mono hP.bel2.size))).1)
      have HGK := Lib.hid hgk; have HFU := Lib.hid hfu; have HXZ := Lib.hid hXz; have HQ := Lib.hid hq; have HRU2 := Lib.hid hru; have HLX := Lib.hid hlx; have HLY := Lib.hid hly
      unfold RelE at hrl
      clear hgk hfu hXz hq hru hlx hly c0 hP0 hps
      cases hR : relR s (pos s q) ⟨#[]⟩ with
      | bad p =>
        rw [hR] at hrl
        have hbad : ruleP s = .bad p := by rw [HRU2.out]; exact rule_bad hR
        have HB := Lib.hid hbad
        clear hbad hR
        go_wp2_with fail
        refine hrl.mono ?_
        rintro e w5 ⟨⟨o, b, nt, fa, fn, fc, ta, tn, tc, q', rfl, hq', rfl⟩, hB5⟩
        have hP6 := (hP.on hB5).on ((Below.refl w5.heap.size w5).alloc (Nat.le_refl _) (.cells #[.int .u8 o, .int .i64 (b : Int), .bool nt, .slice fa fn fc, .slice ta tn tc] 86))
        have hqI : (q' : Int) < L := by omega
        have hq0 : (0 : Int) ≤ q' := by omega
        clear hP hrl
        go_upto_region 9 with fail
        generalize w5.alloc (.cells #[.int .u8 o, .int .i64 (b : Int), .bool nt, .slice fa fn fc, .slice ta tn tc] 86) = w6 at *
        have c1 := (HTK.out q' hq' w6 hP6.bel2).2
        have oc := (hP6).out.cell
        have of_ := (hP6).out.free
        have rc := (hP6).res.cell
        have rf := (hP6).res.free
        go_wp2_with fail
        have hfz := (hP6).fin (.slice none 0 0) (.string ⟨#[]⟩) (.int .i64 ((pos s q' : Nat) : Int))
        obtain ⟨w9, hw9, kf, hbf⟩ := hfz
        rw [hw9]
        have r0 := kf.cell 0; have r1 := kf.cell 1; have r2 := kf.cell 2
        simp at r0 r1 r2
        refine bodyPost_ret (v := .agg #[.slice none 0 0, .string ⟨#[]⟩, .int .i64 ((pos s q' : Nat) : Int)]) (by simp [results, Tryz.results24, go_sem, r0, r1, r2]) rfl ⟨?_, hbf⟩
        rw [HB.out]
      | ok p r t =>
        rw [hR] at hrl
        obtain ⟨hr1, hr2⟩ := rule_ok (f := f) (any := any) (X := X) (j := j) hR
        have hgo : ruleP s = goOn s f p (stp any (j, r)) (jointT X j ++ t) := by rw [HRU2.out]; exact hr2
        obtain ⟨hap, hps, htp⟩ := relR_size hr1 (pos_in s q) HXZ.out
        have ht1 : 1 ≤ t.size := by
          obtain ⟨x, e1, e2, _⟩ := rel_again hR
          rw [e1, nil_app]
          exact e2
        have HT1 := Lib.hid ht1
        have HGO := Lib.hid hgo; have HAP := Lib.hid hap; have HPS := Lib.hid hps; have HTP := Lib.hid htp
        clear hr1 hr2 hgo hR hap hps htp ht1
        obtain ⟨XJ, hXJ⟩ : ∃ x, jointT X j = x := ⟨_, rfl⟩
        rw [hXJ] at hP
        have HXJ := Lib.hid hXJ
        clear hXJ
        go_wp2_with fail
        refine hrl.mono ?_
        rintro e w5 ⟨⟨fv, tv, q', rfl, hq', hpq, ht20, hrf, hrt, _⟩, hB5⟩
        obtain ⟨fa, fn, fc, rfl⟩ := hrf.form'
        obtain ⟨ta, tn, tc, rfl⟩ := hrt.form'
        have hP6 := (hP.on hB5).on ((Below.refl w5.heap.size w5).alloc (Nat.le_refl _) (.cells #[.int .u8 r.op, .int .i64 (r.by_ : Int), .bool r.nt, .slice fa fn fc, .slice ta tn tc] 86))
        have hK6 := (hK.keep (.of hB5)).keep (.of ((Below.refl w5.heap.size w5).alloc (Nat.le_refl _) (.cells #[.int .u8 r.op, .int .i64 (r.by_ : Int), .bool r.nt, .slice fa fn fc, .slice ta tn tc] 86)))
        have hx6 : RelK (w2.heap.size + 1) (w5.alloc (.cells #[.int .u8 r.op, .int .i64 (r.by_ : Int), .bool r.nt, .slice fa fn fc, .slice ta tn tc] 86)) (r.op, r.by_, r.nt, (fa, fn, fc), (ta, tn, tc)) r := ⟨rfl, rfl, rfl, (hrf.mono (by have := hP.ge; omega)).on ((Below.refl w5.heap.size w5).alloc (Nat.le_refl _) (.cells #[.int .u8 r.op, .int .i64 (r.by_ : Int), .bool r.nt, .slice fa fn fc, .slice ta tn tc] 86)), (hrt.mono (by have := hP.ge; omega)).on ((Below.refl w5.heap.size w5).alloc (Nat.le_refl _) (.cells #[.int .u8 r.op, .int .i64 (r.by_ : Int), .bool r.nt, .slice fa fn fc, .slice ta tn tc] 86))⟩
        have kr6 := (Blk.new w5 #[.int .u8 r.op, .int .i64 (r.by_ : Int), .bool r.nt, .slice fa fn fc, .slice ta tn tc] 86)
        have hqI : (q' : Int) < L := by omega
        have hq0 : (0 : Int) ≤ q' := by omega
        have HQ2 := Lib.hid hq'; have HPQ := Lib.hid hpq; have HT20 := Lib.hid ht20
        clear hP hK hrl hrf hrt hB5 hq' hpq ht20
        go_upto_region 9 with fail
        generalize w5.alloc (.cells #[.int .u8 r.op, .int .i64 (r.by_ : Int), .bool r.nt, .slice fa fn fc, .slice ta tn tc] 86) = w6 at *
        have kc := kr6.cell
        go_upto_region 12 with (at_builtin; go_must (refine wpList_snoc_g RlE (x := (r.op, r.by_, r.nt, (fa, fn, fc), (ta, tn, tc))) rfl _ _ rfl b1 (.slice la ln lc) xs rfl (hK6.keep (.of ((Below.refl _ _).alloc (Nat.le_refl _) (.cells #[.int .u8 r.op, .int .i64 (r.by_ : Int), .bool r.nt, .slice fa fn fc, .slice ta tn tc] 86)))).all 1 _ rfl (Blk.new _ _ _) hlx9 (Nat.le_trans hK6.hi (by simp)) ?_); intro v8 w8 hrow8 hg8; obtain ⟨aa, an, ac, rfl⟩ := hrow8.form'; have hP8 := (hP6.on ((Below.refl _ _).alloc (Nat.le_refl _) (.cells #[.int .u8 r.op, .int .i64 (r.by_ : Int), .bool r.nt, .slice fa fn fc, .slice ta tn tc] 86))).growAll (hrow8.mono hK6.lo) hg8; have hK8 := (hK6.keep (.of ((Below.refl _ _).alloc (Nat.le_refl _) (.cells #[.int .u8 r.op, .int .i64 (r.by_ : Int), .bool r.nt, .slice fa fn fc, .slice ta tn tc] 86)))).growAll hrow8 hg8 (hx6.later (fun g c _ hc => ((Below.refl _ _).alloc (Nat.le_refl _) (.cells #[.int .u8 r.op, .int .i64 (r.by_ : Int), .bool r.nt, .slice fa fn fc, .slice ta tn tc] 86)).block g (lt_some hc))))
        have hzX : ¬ 9223372036854775807 < XJ.size + t.size := by have := HXZ.out; rw [HXJ.out] at this; have := HT20.out; have := pos_in s q; have := HS.out; omega
        have hPt := hP8.text (XJ ++ t)
        have hKt := hK8.keep (.set w2.heap.size 1 (.string (XJ ++ t)) (Nat.lt_succ_self _))
        have oc := (hP8).out.cell
        have of_ := (hP8).out.free
        have rc := (hP8).res.cell
        have rf := (hP8).res.free
        clear hrow8 hg8 kc kr6 hP6 hK6 hx6 hK8
        go_upto_region 13 with fail
        generalize w8.setCell ⟨w2.heap.size, 1, none⟩ (.string (XJ ++ t)) = w10 at *
        clear oc of_ rc rf hP8
        have c1 := HTK.out q' HQ2.out w10 hPt.bel2
        obtain ⟨c1, c2⟩ := c1
        obtain ⟨J, hJ⟩ : ∃ J, tx s (pos s q') = J := ⟨_, rfl⟩
        rw [hJ] at c1
        have HJ := Lib.hid hJ
        clear hJ
        have oc := (hPt).out.cell
        have of_ := (hPt).out.free
        have rc := (hPt).res.cell
        have rf := (hPt).res.free
        by_cases hz : J.size = 0
        · have e0 : (J.toList == []) = true := tl_yes (l := []) (ByteArray.ext (Array.eq_empty_of_size_eq_zero hz))
          have hok : ruleP s = .ok p (stp any (j, r)) (XJ ++ t) := by
            rw [HGO.out, HXJ.out]
            unfold goOn
            have hz' : (tx s p).size = 0 := by rw [← HPQ.out, HJ.out]; exact hz
            rw [if_neg (fun e => e.elim (tx_none hz').1 (tx_none hz').2), if_pos hz']
          have HOK := Lib.hid hok
          have hlt2 := hPt.lt
          clear hz hok
          go_upto_region 16 with (at_builtin; go_must (refine wpList_snoc_g RrE (x := (aa, an, ac)) rfl _ _ rfl (w2.heap.size + 1) (.slice va vn vc) ys rfl (hPt.on ((Below.refl _ _).alloc (Nat.le_refl _) (.cells #[.slice aa an ac] 83))).any 1 _ rfl (Blk.new _ _ _) hly9 (Nat.le_trans hPt.ge (by simp)) ?_); intro av2 wb hrowb hgb; obtain ⟨a2, n2, c2, rfl⟩ := hrowb.form'; have hPb := (hPt.on ((Below.refl _ _).alloc (Nat.le_refl _) (.cells #[.slice aa an ac] 83))).growAny hrowb hgb; have hKb := ((hKt.keep (.of ((Below.refl _ _).alloc (Nat.le_refl _) (.cells #[.slice aa an ac] 83)))).keep (.grown (hPt.on ((Below.refl _ _).alloc (Nat.le_refl _) (.cells #[.slice aa an ac] 83))).any hgb)).keep (.set w2.heap.size 0 (.slice a2 n2 c2) (Nat.lt_succ_self _)); have kob := blk_grown hgb (hPt.on ((Below.refl _ _).alloc (Nat.le_refl _) (.cells #[.slice aa an ac] 83))).out (fun e => by have := hPt.any.own _ e; omega); have ocb := kob.cell; have ofb := kob.free)
          generalize wb.setCell ⟨w2.heap.size, 0, none⟩ (.slice a2 n2 c2) = w12 at *
          clear oc of_ rc rf ocb ofb kob hPt
          have oc := hPb.out.cell
          have rc := hPb.res.cell
          have rf := hPb.res.free
          go_wp2_with fail
          have hKp := PR.push (y := (aa, an, ac)) hKb
          have hK9 := ((hKp.keep (.set w.heap.size 0 (.slice a2 n2 c2) (by have := hPb.lt; omega))).keep (.set w.heap.size 1 (.string (XJ ++ t)) (by have := hPb.lt; omega))).keep (.set w.heap.size 2 (.int .i64 (-1)) (by have := hPb.lt; omega))
          have hv9 := ((hPb.any.set w.heap.size 0 (.slice a2 n2 c2) (by have := hPb.lt; omega)).set w.heap.size 1 (.string (XJ ++ t)) (by have := hPb.lt; omega)).set w.heap.size 2 (.int .i64 (-1)) (by have := hPb.lt; omega)
          have hA9 := hK9.a hv9
          rw [← HJN.out.stp r] at hA9
          obtain ⟨w9, hw9, kf, hbf⟩ := hPb.fin (.slice a2 n2 c2) (.string (XJ ++ t)) (.int .i64 (-1))
          rw [hw9]
          rw [hw9] at hA9
          have r0 := kf.cell 0; have r1 := kf.cell 1; have r2 := kf.cell 2
          simp at r0 r1 r2
          refine bodyPost_ret (v := .agg #[.slice a2 n2 c2, .string (XJ ++ t), .int .i64 (-1)]) (by simp [results, Tryz.results24, go_sem, r0, r1, r2]) rfl ⟨?_, hbf⟩
          rw [HOK.out]
          exact ⟨_, _, _, rfl, hA9⟩
        · have e0 : (J.toList == []) = false := tl_no (fun e => hz (by rw [e]; rfl))
          by_cases hj : J = andB ∨ J = orB
          · have hj1 : 1 ≤ J.size := by omega
            have hq1L : q' + 1 < L := HM.out q' HQ2.out (by rw [HJ.out]; omega)
            obtain ⟨q2, hq2⟩ : ∃ x, q' + 1 = x := ⟨_, rfl⟩
            have f1 : IntKind.i64.wrap ((q' : Int) + 1) = (q2 : Int) := by
              rw [show (q' : Int) + 1 = (q2 : Int) by omega]
              exact IntWalk.i64_in _ (by have := HLB.out; omega)
            rw [hq2] at hq1L
            have hadv : pos s q' + J.size ≤ pos s q2 := by have h := pos_adv s q'; rw [HJ.out, hq2] at h; exact h
            have hpos : 0 < (XJ ++ t).size := by rw [ByteArray.size_append]; have := HT1.out; omega
            have hY : XJ ++ t ++ ⟨#[32]⟩ ++ J ++ ⟨#[32]⟩ = jointT (XJ ++ t) J := by rw [jointT_pos hpos]; simp only [ByteArray.append_assoc]
            have hYz : (jointT (XJ ++ t) J).size ≤ 3 * pos s q2 := by
              have h := HTP.out
              rw [HXJ.out, ← HPQ.out] at h
              rw [jointT_pos hpos, ByteArray.size_append, bl_app]
              omega
            have hgo2 : ruleP s = ruleF s f (pos s q2) (stp any (j, r)) (XJ ++ t) J := by
              rw [HGO.out, HXJ.out]
              unfold goOn
              rw [← HPQ.out, HJ.out, if_pos hj, ← hq2]
              rfl
            have hfu2 : s.size < f + pos s q2 := by have := HFU.out; have := HAP.out; have := HPQ.out; omega
            have hqq : q < q' := by
              by_cases e : q' ≤ q
              · have := pos_mono s e; have := HAP.out; have := HPQ.out; omega
              · omega
            have hp2 := pos_in s q2
            have hz1 : ¬ 9223372036854775807 < XJ.size + t.size + 1 := by have := HXZ.out; rw [HXJ.out] at this; have := HT20.out; have := pos_in s q; have := HS.out; omega
            have hz2 : ¬ 9223372036854775807 < XJ.size + t.size + 1 + J.size := by have := HXZ.out; rw [HXJ.out] at this; have := HT20.out; have := pos_in s q; have := HS.out; omega
            have hz3 : ¬ 9223372036854775807 < XJ.size + t.size + 1 + J.size + 1 := by have := HXZ.out; rw [HXJ.out] at this; have := HT20.out; have := pos_in s q; have := HS.out; omega
            have HQQ := Lib.hid hqq; have HFU2 := Lib.hid hfu2; have HGO2 := Lib.hid hgo2; have HYZ2 := Lib.hid hYz; have HY := Lib.hid hY; have HQ1L := Lib.hid hq1L; have HQ22 := Lib.hid hq2; have HJJ := Lib.hid hj
            clear hj1 hq1L hq2 hadv hpos hY hYz hgo2 hfu2 hqq hp2 hz c2
            rcases hj with hj | hj
            · have HJA := Lib.hid hj
              have e1 := tl_yes (l := [97, 110, 100]) hj
              have e2 : (J.toList == [111, 114]) = false := tl_no (fun e => by rw [hj] at e; exact absurd e (by decide))
              clear hj
              go_wp2_with fail
              have hPn := hPt.text (XJ ++ t ++ ⟨#[32]⟩ ++ J ++ ⟨#[32]⟩)
              rw [HY.out] at hPn
              rw [HY.out]
              go_roundg f
              case rel => exact ⟨q2, XJ ++ t, J, stp any (j, r), _, _, _, _, _, _, rfl, HQ1L.out, HGO2.out, HFU2.out, HYZ2.out, by rw [List.length_append]; have := HLX.out; have := HQQ.out; have := HQ22.out; show xs.length + 1 ≤ q2; omega, by have := HLY.out; have := HQQ.out; have := HQ22.out; omega, hPn, hKt.keep (.set _ _ _ (Nat.lt_succ_self _)), .inr ⟨HJA.out, HJN.out.stp r⟩⟩
              case measure => have := HGK.out; omega
            · have HJA := Lib.hid hj
              have e1 : (J.toList == [97, 110, 100]) = false := tl_no (fun e => by rw [hj] at e; exact absurd e (by decide))
              have e2 := tl_yes (l := [111, 114]) hj
              clear hj
              have hlt2 := hPt.lt
              go_upto_region 21 with (at_builtin; go_must (refine wpList_snoc_g RrE (x := (aa, an, ac)) rfl _ _ rfl (w2.heap.size + 1) (.slice va vn vc) ys rfl (hPt.on ((Below.refl _ _).alloc (Nat.le_refl _) (.cells #[.slice aa an ac] 83))).any 1 _ rfl (Blk.new _ _ _) hly9 (Nat.le_trans hPt.ge (by simp)) ?_); intro av2 wb hrowb hgb; obtain ⟨a2, n2, c2, rfl⟩ := hrowb.form'; have hPb := (hPt.on ((Below.refl _ _).alloc (Nat.le_refl _) (.cells #[.slice aa an ac] 83))).growAny hrowb hgb; have hKb := ((hKt.keep (.of ((Below.refl _ _).alloc (Nat.le_refl _) (.cells #[.slice aa an ac] 83)))).keep (.grown (hPt.on ((Below.refl _ _).alloc (Nat.le_refl _) (.cells #[.slice aa an ac] 83))).any hgb)).keep (.set w2.heap.size 0 (.slice a2 n2 c2) (Nat.lt_succ_self _)); have kob := blk_grown hgb (hPt.on ((Below.refl _ _).alloc (Nat.le_refl _) (.cells #[.slice aa an ac] 83))).out (fun e => by have := hPt.any.own _ e; omega); have ocb := kob.cell; have ofb := kob.free)
              generalize wb.setCell ⟨w2.heap.size, 0, none⟩ (.slice a2 n2 c2) = w12 at *
              clear oc of_ rc rf ocb ofb kob hPt
              have oc := hPb.out.cell
              have of_ := hPb.out.free
              go_wp2_with fail
              have hPn := (hPb.text (XJ ++ t ++ ⟨#[32]⟩ ++ J ++ ⟨#[32]⟩)).nil
              rw [HY.out] at hPn
              rw [HY.out]
              go_roundg f
              case rel => exact ⟨q2, XJ ++ t, J, stp any (j, r), _, _, [], _, [], _, rfl, HQ1L.out, HGO2.out, HFU2.out, HYZ2.out, Nat.zero_le _, by rw [List.length_append]; have := HLY.out; have := HQQ.out; have := HQ22.out; show ys.length + 1 ≤ q2; omega, hPn, (PR.push (y := (aa, an, ac)) hKb).keep (.set _ _ _ (Nat.lt_succ_self _)), .inl ⟨HJA.out, HJN.out.stp r, rfl⟩⟩
              case measure => have := HGK.out; omega
          · have e1 : (J.toList == [97, 110, 100]) = false := tl_no (fun e => hj (.inl e))
            have e2 : (J.toList == [111, 114]) = false := tl_no (fun e => hj (.inr e))
            have hbad : ruleP s = .bad (pos s q') := by
              rw [HGO.out]
              unfold goOn
              rw [← HPQ.out, HJ.out, if_neg hj, if_neg hz]
            have HB := Lib.hid hbad
            clear hz hj hbad
            go_wp2_with fail
            have hfz := (hPt).fin (.slice none 0 0) (.string ⟨#[]⟩) (.int .i64 ((pos s q' : Nat) : Int))
            obtain ⟨w9, hw9, kf, hbf⟩ := hfz
            rw [hw9]
            have r0 := kf.cell 0; have r1 := kf.cell 1; have r2 := kf.cell 2
            simp at r0 r1 r2
            refine bodyPost_ret (v := .agg #[.slice none 0 0, .string ⟨#[]⟩, .int .i64 ((pos s q' : Nat) : Int)]) (by simp [results, Tryz.results24, go_sem, r0, r1, r2]) rfl ⟨?_, hbf⟩
            rw [HB.out]
end Go.Proofs.YtgbemhehbhlgpaaGreatDoor
