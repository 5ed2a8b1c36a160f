/-
  Tokens that were handed in, opened: an argument that is a slice of tokens.
  The laws' 'one' and 'same': tokens that were handed in and are alike.
-/
import Derived.Test.YtdipbfchlopeaaaGreatDoorXnF
import Derived.Deep.Strs
import Derived.ProofKit
import Derived.OpenShut
import Derived.WideShapes
import Derived.Test.YtdipbfchlopeaaaGreatDoorXnJ
namespace Go.Proofs.YtdipbfchlopeaaaGreatDoor
section
open Go.RowKit Go.ChangeShapes Go.WideShapes Go.Deep Go.Lib

/-- A token that was handed in: its place may be whatever. -/
structure TkI where
  kind : Int
  name : ByteArray
  attrs : List At2
  text : ByteArray
  at_ : Int
instance : Inhabited TkI := ⟨⟨0, ⟨#[]⟩, [], ⟨#[]⟩, 0⟩⟩
/-- .. as it lies in memory. -/
structure TkMI where
  kind : Int
  name : ByteArray
  aa : Option Addr
  an : Nat
  ac : Nat
  text : ByteArray
  at_ : Int
instance : Inhabited TkMI := ⟨⟨0, ⟨#[]⟩, none, 0, 0, ⟨#[]⟩, 0⟩⟩
def TkEI : ETy TkMI where
  T := 27
  ST := 22
  sz := 5
  bs := 72
  z := .agg #[.int .i64 0, .string ⟨#[]⟩, .slice none 0 0, .string ⟨#[]⟩, .int .i64 0]
  enc := fun m => [.int .i64 m.kind, .string m.name, .slice m.aa m.an m.ac, .string m.text, .int .i64 m.at_]
  hsz := by decide
  hbs := by decide
  hlen := fun _ => rfl
  hz := rfl
  info := by kernel_rfl
  und := Tryz.underlying22
  hone := fun _ => by simp [Value.oneCell']
/-- A slice's own numbers. -/
def SlOk (a : Option Addr) (n c : Nat) : Prop := n ≤ c ∧ c ≤ maxLen ∧ (a = none → c = 0)
/-- What lies in memory is this token. -/
structure TkIOk (w : World) (m : TkMI) (t : TkI) : Prop where
  kind : m.kind = t.kind
  name : m.name = t.name
  text : m.text = t.text
  at_ : m.at_ = t.at_
  attrs : GAt AtE w (.slice m.aa m.an m.ac) t.attrs
  ok : SlOk m.aa m.an m.ac
  ki : -9223372036854775808 ≤ t.kind ∧ t.kind ≤ 9223372036854775807
  ai : -9223372036854775808 ≤ t.at_ ∧ t.at_ ≤ 9223372036854775807
/-- A slice that reads as tokens. -/
def TisAt (w : World) (v : Value) (l : List TkI) : Prop :=
  ∃ ms : List TkMI, GAt TkEI w v ms ∧ ms.length = l.length ∧ ∀ j (h : j < ms.length) (h' : j < l.length), TkIOk w ms[j] l[j]
/-- .. as an argument. -/
def TisArg (w : World) (v : Value) (l : List TkI) : Prop := TisAt w v l ∧ ∃ a cap, v = .slice a l.length cap ∧ SlOk a l.length cap
/-- How much there is. -/
def wtL {α : Type} (f : α → Nat) : List α → Nat
  | [] => 0
  | x :: l => f x + wtL f l
def wtAt (a : At2) : Nat := a.1.size + a.2.size + 3
def wtTk (t : TkI) : Nat := t.name.size + t.text.size + wtL wtAt t.attrs + 3
theorem wt_bulk {α H : Type} (f : α → Nat) (g : Nat → α) (D : Nat → DataW H) : ∀ l : List Nat, (∀ i ∈ l, f (g i) ≤ Rows.uptoBulk (D i)) → wtL f (l.map g) ≤ Rows.uptoBulkAll (l.map D)
  | [], _ => Nat.zero_le _
  | i :: l, h => by
    have h1 := h i (by simp)
    have h2 := wt_bulk f g D l (fun j hj => h j (by simp [hj]))
    simp only [List.map_cons, wtL, Rows.uptoBulkAll]
    omega
theorem wtL_mem {α : Type} {f : α → Nat} {x : α} : ∀ {l : List α}, x ∈ l → f x ≤ wtL f l
  | [], h => absurd h (by simp)
  | y :: l, h => by
    simp only [wtL]
    rcases List.mem_cons.1 h with rfl | h
    · omega
    · have := wtL_mem (f := f) h; omega
theorem wtL_len {α : Type} {f : α → Nat} {k : Nat} (hf : ∀ x, k ≤ f x) : ∀ l : List α, k * l.length ≤ wtL f l
  | [] => by simp
  | x :: l => by
    have h1 := hf x
    have h2 := wtL_len hf l
    simp only [wtL, List.length_cons, Nat.mul_add, Nat.mul_one]
    omega
section
variable {H : Type} {enc : TypeId × Value → H} {W : World} {base : Nat} {held : Bool}
theorem trod_struct5 {P : Program} {sp : Nat → Bool} {t : TypeId} {f0 f1 f2 f3 f4 : Field} {fuel : Nat} {cs : List Value} {x : DataW H × List MemPlace} (ht : P.underlying t = some (.struct #[f0, f1, f2, f3, f4])) (h : DataW.trod enc P W base sp held fuel t cs = some x) :
    ∃ y0 y1 y2 y3 y4 n, x = (.agg [y0.1, y1.1, y2.1, y3.1, y4.1], y0.2 ++ (y1.2 ++ (y2.2 ++ (y3.2 ++ y4.2)))) ∧ cs.length = P.cellsOf t ∧ DataW.trod enc P W base sp held n f0.type ((cs.drop f0.offset).take (P.cellsOf f0.type)) = some y0 ∧
      DataW.trod enc P W base sp held n f1.type ((cs.drop f1.offset).take (P.cellsOf f1.type)) = some y1 ∧ DataW.trod enc P W base sp held n f2.type ((cs.drop f2.offset).take (P.cellsOf f2.type)) = some y2 ∧
      DataW.trod enc P W base sp held n f3.type ((cs.drop f3.offset).take (P.cellsOf f3.type)) = some y3 ∧ DataW.trod enc P W base sp held n f4.type ((cs.drop f4.offset).take (P.cellsOf f4.type)) = some y4 := by
  obtain ⟨xs, n, _, rfl, hl, hlen, hf⟩ := DataW.trod_struct ht h
  match xs, hlen with
  | [y0, y1, y2, y3, y4], _ => exact ⟨y0, y1, y2, y3, y4, n, by simp, hl, by simpa using hf 0 f0 rfl, by simpa using hf 1 f1 rfl, by simpa using hf 2 f2 rfl, by simpa using hf 3 f3 rfl, by simpa using hf 4 f4 rfl⟩
theorem size_list (b : ByteArray) : b.size = b.data.toList.length := by rw [Array.length_toList]; rfl
set_option maxRecDepth 100000 in
/-- Attributes that were handed in. -/
theorem open_attrs {n : Nat} {v : Value} {y : DataW H × List MemPlace} (h : DataW.trod enc Tryz.prog W base (fun _ => true) held n 25 [v] = some y) :
    ∃ a cap la, v = .slice a la.length cap ∧ GAt AtE W v la ∧ SlOk a la.length cap ∧ wtL wtAt la + 1 ≤ Rows.uptoBulk y.1 := by
  rcases open_slice Tryz.underlying25 h with ⟨hcs, hy⟩ | ⟨a', len', cap', m, n', D, Pl, hcs, _, hl, hm, hmm, hx, hi⟩
  · have hv : v = .slice none 0 0 := by simpa using hcs
    subst hv hy
    exact ⟨none, 0, [], rfl, ⟨none, 0, rfl, fun j hj => absurd hj (by simp)⟩, ⟨Nat.le_refl _, Nat.zero_le _, fun _ => rfl⟩, by simp [wtL, Rows.uptoBulk]⟩
  · have hv : v = .slice (some a') len' cap' := by simpa using hcs
    subst hv hx
    simp only [if_true] at hmm
    obtain rfl : m = cap' := hmm
    have hsp : 0 < len' → a'.spot = none := by
      intro h0
      obtain ⟨cs', h1, _⟩ := hi 0 (by omega)
      rw [show Tryz.prog.cellsOf 40 = 2 by kernel_rfl] at h1
      obtain ⟨_, hcl, hg⟩ := World.cells?_some h1
      match cs', hcl with
      | [v0, v1], _ =>
        have g0 : W.cell? ((a'.add (0 * 2)).add 0) = some v0 := hg 0 (by omega)
        simpa [Addr.add] using World.cell?_spot g0
    have hC : ∀ i, i < len' → ∃ x : At2, (W.cell? (a'.add (i * 2)) = some (.string x.1) ∧ W.cell? (a'.add (i * 2 + 1)) = some (.string x.2)) ∧ wtAt x ≤ Rows.uptoBulk (D i) := by
      intro i hil
      obtain ⟨cs', h1, h2⟩ := hi i (by omega)
      rw [show Tryz.prog.cellsOf 40 = 2 by kernel_rfl] at h1
      obtain ⟨_, hcl, hg⟩ := World.cells?_some h1
      obtain ⟨y0, y1, n2, hy, _, t0, t1⟩ := trod_struct2 Tryz.underlying40 h2
      match cs', hcl with
      | [v0, v1], _ =>
        replace t0 : DataW.trod enc Tryz.prog W base (fun _ => true) held n2 9 [v0] = some y0 := t0
        replace t1 : DataW.trod enc Tryz.prog W base (fun _ => true) held n2 9 [v1] = some y1 := t1
        obtain ⟨z0, e0, x0, _⟩ := DataW.trod_string Tryz.underlying9 t0
        obtain ⟨z1, e1, x1, _⟩ := DataW.trod_string Tryz.underlying9 t1
        have e0 : v0 = .string z0 := by simpa using e0
        have e1 : v1 = .string z1 := by simpa using e1
        subst e0 e1
        have g0 := hg 0 (by omega)
        have g1 := hg 1 (by omega)
        have hD : D i = .agg [y0.1, y1.1] := by rw [Prod.mk.injEq] at hy; exact hy.1
        have hb : wtAt (z0, z1) ≤ Rows.uptoBulk (D i) := by
          rw [hD, x0, x1]
          simp only [Rows.uptoBulk, Rows.uptoBulkAll, wtAt, size_list]
          omega
        have hsp := hsp (by omega)
        clear hi h1 hg
        obtain ⟨b, off, sp⟩ := a'
        subst hsp
        simp only [Lib.add_plain] at g0 g1 ⊢
        exact ⟨(z0, z1), ⟨g0, g1⟩, hb⟩
    obtain ⟨f, hf⟩ := choose_lt (α := At2) hC
    refine ⟨some a', m, (List.range len').map f, by simp, ⟨some a', m, by simp, fun j hj => ?_⟩, ⟨by simpa using hl, hm, fun h => by cases h⟩, ?_⟩
    · have hj' : j < len' := by simpa using hj
      obtain ⟨b, off, sp⟩ := a'
      have h := (hf j hj').1
      have hspot : sp = none := hsp (by omega)
      subst hspot
      rw [Lib.add_plain, Lib.add_plain] at h
      refine ⟨b, off, rfl, World.block_lt_of_cell? _ _ h.1, fun i hi => ?_⟩
      have hi : i < 2 := hi
      rcases (by omega : i = 0 ∨ i = 1) with rfl | rfl
      · simpa [AtE] using h.1
      · simpa [AtE, Nat.add_assoc] using h.2
    · have := wt_bulk wtAt f D (List.range len') (fun i hi => (hf i (List.mem_range.1 hi)).2)
      simp only [Rows.uptoBulk]
      omega
theorem int_rng {n : Int} (h : (Lit.int .i64 n).wf = true) : -9223372036854775808 ≤ n ∧ n ≤ 9223372036854775807 := bounds_i64 h
set_option maxRecDepth 100000 in
/-- One token that was handed in. -/
theorem open_tok {a' : Addr} {cs' : List Value} {n' : Nat} {y : DataW H × List MemPlace} (h1 : W.cells? base a' 5 = some cs') (h2 : DataW.trod enc Tryz.prog W base (fun _ => true) held n' 27 cs' = some y) :
    ∃ x : TkMI × TkI, TkIOk W x.1 x.2 ∧ (∀ i, i < 5 → W.cell? (a'.add i) = (TkEI.enc x.1)[i]?) ∧ wtTk x.2 ≤ Rows.uptoBulk y.1 := by
  obtain ⟨_, hcl, hg⟩ := World.cells?_some h1
  obtain ⟨y0, y1, y2, y3, y4, n2, hy, _, t0, t1, t2, t3, t4⟩ := trod_struct5 Tryz.underlying27 h2
  match cs', hcl with
  | [v0, v1, v2, v3, v4], _ =>
    replace t0 : DataW.trod enc Tryz.prog W base (fun _ => true) held n2 3 [v0] = some y0 := t0
    replace t1 : DataW.trod enc Tryz.prog W base (fun _ => true) held n2 9 [v1] = some y1 := t1
    replace t2 : DataW.trod enc Tryz.prog W base (fun _ => true) held n2 25 [v2] = some y2 := t2
    replace t3 : DataW.trod enc Tryz.prog W base (fun _ => true) held n2 9 [v3] = some y3 := t3
    replace t4 : DataW.trod enc Tryz.prog W base (fun _ => true) held n2 3 [v4] = some y4 := t4
    obtain ⟨z0, e0, x0, w0⟩ := DataW.trod_int Tryz.underlying3 t0
    obtain ⟨z1, e1, x1, _⟩ := DataW.trod_string Tryz.underlying9 t1
    obtain ⟨aa, ac, la, e2, ha, ho, hwt⟩ := open_attrs t2
    obtain ⟨z3, e3, x3, _⟩ := DataW.trod_string Tryz.underlying9 t3
    obtain ⟨z4, e4, x4, w4⟩ := DataW.trod_int Tryz.underlying3 t4
    have e0 : v0 = .int .i64 z0 := by simpa using e0
    have e1 : v1 = .string z1 := by simpa using e1
    have e3 : v3 = .string z3 := by simpa using e3
    have e4 : v4 = .int .i64 z4 := by simpa using e4
    subst e0 e1 e2 e3 e4
    refine ⟨(⟨z0, z1, aa, la.length, ac, z3, z4⟩, ⟨z0, z1, la, z3, z4⟩), ⟨rfl, rfl, rfl, rfl, ha, ho, int_rng w0, int_rng w4⟩, fun i hi => ?_, ?_⟩
    · rw [hg i hi]
      rcases (by omega : i = 0 ∨ i = 1 ∨ i = 2 ∨ i = 3 ∨ i = 4) with rfl | rfl | rfl | rfl | rfl <;> rfl
    · have hy0 : y.1 = .agg [y0.1, y1.1, y2.1, y3.1, y4.1] := by rw [hy]
      rw [hy0, x0, x1, x3, x4]
      simp only [Rows.uptoBulk, Rows.uptoBulkAll, wtTk, size_list]
      omega
set_option maxRecDepth 100000 in
/-- Tokens that were handed in. -/
theorem open_toks {b0 : Nat} {v : Value} {d : DataW H} {p : List MemPlace} (hv : Value.okWide Tryz.prog W .any b0 22 v) (h : DataW.Trod enc Tryz.prog W base (fun _ => true) held 22 v d p) (hw : Rows.uptoBulk d ≤ 1048576) :
    ∃ l, TisArg W v l ∧ wtL wtTk l ≤ 1048576 := by
  obtain ⟨a, len, cap, rfl⟩ := okWide_slice Tryz.underlying22 hv
  obtain ⟨n, hn⟩ := h
  rcases open_slice Tryz.underlying22 hn with ⟨hcs, _⟩ | ⟨a', len', cap', m, n', D, Pl, hcs, _, hl, hm, hmm, hx, hi⟩
  · simp [Value.cells] at hcs
    obtain ⟨rfl, rfl, rfl⟩ := hcs
    exact ⟨[], ⟨⟨[], ⟨none, 0, rfl, fun j hj => absurd hj (by simp)⟩, rfl, fun j hj => absurd hj (by simp)⟩, none, 0, rfl, Nat.le_refl _, Nat.zero_le _, fun _ => rfl⟩, by simp [wtL]⟩
  · simp [Value.cells] at hcs
    obtain ⟨rfl, rfl, rfl⟩ := hcs
    simp only [if_true] at hmm
    obtain rfl : cap = m := hmm.symm
    simp only [Prod.mk.injEq] at hx
    obtain ⟨rfl, _⟩ := hx
    rw [show Tryz.prog.cellsOf 27 = 5 by kernel_rfl] at hi
    have hsp : 0 < len → a'.spot = none := by
      intro h0
      obtain ⟨cs', h1, _⟩ := hi 0 (by omega)
      obtain ⟨_, hcl, hg⟩ := World.cells?_some h1
      have g0 := hg 0 (by omega)
      match cs', hcl with
      | v0 :: _, _ =>
        have g0 : W.cell? ((a'.add (0 * 5)).add 0) = some v0 := g0
        simpa [Addr.add] using World.cell?_spot g0
    have hC : ∀ i, i < len → ∃ x : TkMI × TkI, TkIOk W x.1 x.2 ∧ (∀ k, k < 5 → W.cell? ((a'.add (i * 5)).add k) = (TkEI.enc x.1)[k]?) ∧ wtTk x.2 ≤ Rows.uptoBulk (D i) := by
      intro i hil
      obtain ⟨cs', h1, h2⟩ := hi i (by omega)
      exact open_tok h1 h2
    obtain ⟨f, hf⟩ := choose_lt (α := TkMI × TkI) hC
    refine ⟨(List.range len).map fun i => (f i).2, ⟨⟨(List.range len).map fun i => (f i).1, ⟨some a', cap, by simp, fun j hj => ?_⟩, by simp, fun j hj hj' => ?_⟩, some a', cap, by simp, by simpa using hl, hm, fun h => by cases h⟩, ?_⟩
    · have hj' : j < len := by simpa using hj
      have h := (hf j hj').2.1
      have hspot := hsp (by omega)
      clear hi
      obtain ⟨b, off, sp⟩ := a'
      subst hspot
      have h' : ∀ k, k < 5 → W.cell? ⟨b, off + (j * 5 + k), none⟩ = (TkEI.enc (f j).1)[k]? := fun k hk => by
        have := h k hk
        rwa [Lib.add_plain, Lib.add_plain, Nat.add_assoc] at this
      refine ⟨b, off, rfl, World.block_lt_of_cell? _ _ (h' 0 (by omega)), fun i hi => ?_⟩
      simpa [show TkEI.sz = 5 from rfl] using h' i hi
    · have hjl : j < len := by simpa using hj
      simpa using (hf j hjl).1
    · have := wt_bulk wtTk (fun i => (f i).2) D (List.range len) (fun i hi => (hf i (List.mem_range.1 hi)).2.2)
      simp only [Rows.uptoBulk] at hw
      omega
end
end

section
open Go.RowKit Go.PlainAid

theorem str_ne_self' (x : ByteArray) : (x.toList != x.toList) = false := by simp
theorem TkIOk.on {w w' : World} {m : TkMI} {t : TkI} (h : TkIOk w m t) (hB : Below w.heap.size w w') : TkIOk w' m t := ⟨h.kind, h.name, h.text, h.at_, h.attrs.on hB, h.ok, h.ki, h.ai⟩
theorem TisAt.on {w w' : World} {v : Value} {out : List TkI} (h : TisAt w v out) (hB : Below w.heap.size w w') : TisAt w' v out := by
  obtain ⟨ms, h1, h2, h3⟩ := h
  exact ⟨ms, h1.on hB, h2, fun j hj hj' => (h3 j hj hj').on hB⟩
theorem TisArg.on {w w' : World} {v : Value} {out : List TkI} (h : TisArg w v out) (hB : Below w.heap.size w w') : TisArg w' v out := ⟨h.1.on hB, h.2⟩
section
set_option maxRecDepth 100000
set_option maxHeartbeats 4000000
theorem onei_yes (w : World) (kd : Int) (nm tx : ByteArray) (va vb : Value) (A : List At2) (p q : Int) (b : Bool) (hp : b = true → p = q) (ha : GAt AtE w va A) (hb : GAt AtE w vb A) (hl : A.length ≤ maxLen) :
    Calls Tryz.prog 19 #[.agg #[.int .i64 kd, .string nm, va, .string tx, .int .i64 (p : Int)], .agg #[.int .i64 kd, .string nm, vb, .string tx, .int .i64 (q : Int)], .bool b] w fun e w' => e = .returned (.bool true) ∧ Below w.heap.size w w' := by
  obtain ⟨w1, hw1⟩ : ∃ w1, (w.alloc (.cells #[.int .i64 kd, .string nm, va, .string tx, .int .i64 (p : Int)] 27)).alloc (.cells #[.int .i64 kd, .string nm, vb, .string tx, .int .i64 (q : Int)] 27) = w1 := ⟨_, rfl⟩
  have hB1 : Below w.heap.size w w1 := by rw [← hw1]; exact ((Below.refl _ _).alloc (Nat.le_refl _) _).alloc (by simp) _
  have h1 : Blk w1 w.heap.size #[.int .i64 kd, .string nm, va, .string tx, .int .i64 (p : Int)] := by rw [← hw1]; exact (Blk.new _ _ _).alloc _
  have h2 : Blk w1 (w.heap.size + 1) #[.int .i64 kd, .string nm, vb, .string tx, .int .i64 (q : Int)] := by rw [← hw1]; exact Blk.new' _ _ _ _ (by simp)
  have hA1 := ha.on hB1
  have hA2 := hb.on hB1
  obtain ⟨n, hn⟩ : ∃ n, A.length = n := ⟨_, rfl⟩
  obtain ⟨aa, ca, rfl, hca⟩ := hA1
  obtain ⟨ab, cc, rfl, hcc⟩ := hA2
  rw [hn] at h1 h2 hw1
  have e10 : w1.cell? ⟨w.heap.size, 0, none⟩ = some (.int .i64 kd) := h1.cell 0
  have e11 : w1.cell? ⟨w.heap.size, 1, none⟩ = some (.string nm) := h1.cell 1
  have e12 : w1.cell? ⟨w.heap.size, 2, none⟩ = some (.slice aa n ca) := h1.cell 2
  have e13 : w1.cell? ⟨w.heap.size, 3, none⟩ = some (.string tx) := h1.cell 3
  have e14 : w1.cell? ⟨w.heap.size, 4, none⟩ = some (.int .i64 (p : Int)) := h1.cell 4
  have e20 : w1.cell? ⟨w.heap.size + 1, 0, none⟩ = some (.int .i64 kd) := h2.cell 0
  have e21 : w1.cell? ⟨w.heap.size + 1, 1, none⟩ = some (.string nm) := h2.cell 1
  have e22 : w1.cell? ⟨w.heap.size + 1, 2, none⟩ = some (.slice ab n cc) := h2.cell 2
  have e23 : w1.cell? ⟨w.heap.size + 1, 3, none⟩ = some (.string tx) := h2.cell 3
  have e24 : w1.cell? ⟨w.heap.size + 1, 4, none⟩ = some (.int .i64 (q : Int)) := h2.cell 4
  have s1 := str_ne_self' nm
  have s2 := str_ne_self' tx
  have HPQ := Lib.hid hp
  have HCA := Lib.hid hca; have HCC := Lib.hid hcc; have HN := Lib.hid hn; have HW1 := Lib.hid hw1; have HB1 := Lib.hid hB1
  rw [hn]
  clear hp ha hb hn hca hcc hw1 hB1 h1 h2
  go_enter Tryz.func19, Tryz.ntmps19
  go_upto_region 0 with fail
  go_cut [3, 4] (fun s3 s4 wx => s3 = .pointer (some ⟨w.heap.size, 0, none⟩) ∧ s4 = .pointer (some ⟨w.heap.size + 1, 0, none⟩) ∧ wx = w1)
  case first =>
    go_wp2_with fail
    go_meet
    case rel => exact ⟨rfl, by simp, HW1.out⟩
  case rest =>
  obtain ⟨rfl, rfl, rfl⟩ := hcut
  clear HW1
  obtain ⟨b1, hb1⟩ : ∃ b1, w.heap.size = b1 := ⟨_, rfl⟩
  rw [hb1] at e10 e11 e12 e13 e14 e20 e21 e22 e23 e24 ⊢
  obtain ⟨b2, hb2⟩ : ∃ b2, b1 + 1 = b2 := ⟨_, rfl⟩
  rw [hb2] at e20 e21 e22 e23 e24 ⊢
  cases b with
  | true =>
    have s3 : ((p : Int) != (q : Int)) = false := by rw [HPQ.out rfl]; simp
    clear HPQ
    go_wp2_with fail
    go_loopg [49] (n + 1) (fun f s49 wx => ∃ i : Nat, s49 = .int .i64 (i : Int) ∧ f + i = n + 1 ∧ i ≤ n ∧ Below wc.heap.size wc wx ∧ wx.cell? ⟨b1, 2, none⟩ = some (.slice aa n ca) ∧ wx.cell? ⟨b2, 2, none⟩ = some (.slice ab n cc))
    case atStart => exact ⟨0, rfl, rfl, Nat.zero_le _, Below.refl _ _, e12, e22⟩
    case round =>
      clear e10 e11 e12 e13 e14 e20 e21 e22 e23 e24 s1 s2
      try clear s3
      obtain ⟨i, rfl, hg, hi, hB, e12, e22⟩ := hrel
      have HG := Lib.hid hg; have HB := Lib.hid hB
      have hi0 : (0 : Int) ≤ i := by omega
      have hnn : n ≤ 9223372036854775807 := by have := HN.out; unfold maxLen at hl; omega
      clear hg hB
      by_cases hlt : i < n
      · have f1 : IntKind.i64.wrap ((i : Int) + 1) = (i : Int) + 1 := IntWalk.i64_in _ (by omega)
        have hil : i < A.length := by have := HN.out; omega
        have hiI : (i : Int) < n := by omega
        obtain ⟨g1, o1, rfl, hg1, hc1⟩ := HCA.out i hil
        obtain ⟨g2, o2, rfl, hg2, hc2⟩ := HCC.out i hil
        obtain ⟨pr, hpr⟩ : ∃ pr, A[i] = pr := ⟨_, rfl⟩
        rw [hpr] at hc1 hc2
        obtain ⟨K, V⟩ := pr
        have k1 : wc.cell? ⟨g1, o1 + i * 2, none⟩ = some (Value.string K) := hc1 0 (by decide)
        have k2 : wc.cell? ⟨g1, o1 + i * 2 + 1, none⟩ = some (Value.string V) := hc1 1 (by decide)
        have k3 : wc.cell? ⟨g2, o2 + i * 2, none⟩ = some (Value.string K) := hc2 0 (by decide)
        have k4 : wc.cell? ⟨g2, o2 + i * 2 + 1, none⟩ = some (Value.string V) := hc2 1 (by decide)
        have hBd := HB.out.trans ((Below.refl wr.heap.size wr).drew.mono HB.out.size)
        have hSd : wr.drew.cell? ⟨b1, 2, none⟩ = some (Value.slice (some ⟨g1, o1, none⟩) n ca) ∧ wr.drew.cell? ⟨b2, 2, none⟩ = some (Value.slice (some ⟨g2, o2, none⟩) n cc) ∧ wr.drew.cell? ⟨g1, o1 + i * 2, none⟩ = some (Value.string K) ∧ wr.drew.cell? ⟨g1, o1 + i * 2 + 1, none⟩ = some (Value.string V) ∧ wr.drew.cell? ⟨g2, o2 + i * 2, none⟩ = some (Value.string K) ∧ wr.drew.cell? ⟨g2, o2 + i * 2 + 1, none⟩ = some (Value.string V) :=
          ⟨e12, e22, cell_kept k1 hBd, cell_kept k2 hBd, cell_kept k3 hBd, cell_kept k4 hBd⟩
        have HLT := Lib.hid hlt
        have HBD := Lib.hid hBd
        clear hc1 hc2 k1 k2 k3 k4 hBd hpr hlt hil hg1 hg2 e12 e22
        go_upto_region 6 with fail
        refine wp_region_held_drew (S := fun w' => w'.cell? ⟨b1, 2, none⟩ = some (Value.slice (some ⟨g1, o1, none⟩) n ca) ∧ w'.cell? ⟨b2, 2, none⟩ = some (Value.slice (some ⟨g2, o2, none⟩) n cc) ∧ w'.cell? ⟨g1, o1 + i * 2, none⟩ = some (Value.string K) ∧ w'.cell? ⟨g1, o1 + i * 2 + 1, none⟩ = some (Value.string V) ∧ w'.cell? ⟨g2, o2 + i * 2, none⟩ = some (Value.string K) ∧ w'.cell? ⟨g2, o2 + i * 2 + 1, none⟩ = some (Value.string V)) (by kernel_rfl) (hSd) (fun hHeld => ?_)
        refine tkH 0 hHeld ?_
        refine tkH 1 hHeld ?_
        refine tkH 2 hHeld ?_
        refine tkH 3 hHeld ?_
        refine tkH 4 hHeld ?_
        refine tkH 5 hHeld ?_
        refine tkH 6 hHeld ?_
        refine tkH 7 hHeld ?_
        refine tkH 8 hHeld ?_
        refine tkH 9 hHeld ?_
        refine tkH 10 hHeld ?_
        refine wpAnyH_done (by kernel_rfl) ?_ _
        have sK := str_ne_self' K
        have sV := str_ne_self' V
        go_wp2_with fail
        go_roundg (n - i)
        case rel => exact ⟨i + 1, by simp, by have := HG.out; have := HLT.out; omega, HLT.out, HBD.out, hSd.1, hSd.2.1⟩
        case measure => have := HG.out; have := HLT.out; omega
      · have hiI : ¬ (i : Int) < n := by omega
        go_wp2_with fail
        go_ret
        refine ⟨rfl, ?_⟩
        first | exact HB1.out.trans (HB.out.mono HB1.out.size) | (rw [← hb1]; exact HB1.out.trans (HB.out.mono HB1.out.size))
  | false =>
    clear HPQ
    go_wp2_with fail
    go_loopg [49] (n + 1) (fun f s49 wx => ∃ i : Nat, s49 = .int .i64 (i : Int) ∧ f + i = n + 1 ∧ i ≤ n ∧ Below wc.heap.size wc wx ∧ wx.cell? ⟨b1, 2, none⟩ = some (.slice aa n ca) ∧ wx.cell? ⟨b2, 2, none⟩ = some (.slice ab n cc))
    case atStart => exact ⟨0, rfl, rfl, Nat.zero_le _, Below.refl _ _, e12, e22⟩
    case round =>
      clear e10 e11 e12 e13 e14 e20 e21 e22 e23 e24 s1 s2
      try clear s3
      obtain ⟨i, rfl, hg, hi, hB, e12, e22⟩ := hrel
      have HG := Lib.hid hg; have HB := Lib.hid hB
      have hi0 : (0 : Int) ≤ i := by omega
      have hnn : n ≤ 9223372036854775807 := by have := HN.out; unfold maxLen at hl; omega
      clear hg hB
      by_cases hlt : i < n
      · have f1 : IntKind.i64.wrap ((i : Int) + 1) = (i : Int) + 1 := IntWalk.i64_in _ (by omega)
        have hil : i < A.length := by have := HN.out; omega
        have hiI : (i : Int) < n := by omega
        obtain ⟨g1, o1, rfl, hg1, hc1⟩ := HCA.out i hil
        obtain ⟨g2, o2, rfl, hg2, hc2⟩ := HCC.out i hil
        obtain ⟨pr, hpr⟩ : ∃ pr, A[i] = pr := ⟨_, rfl⟩
        rw [hpr] at hc1 hc2
        obtain ⟨K, V⟩ := pr
        have k1 : wc.cell? ⟨g1, o1 + i * 2, none⟩ = some (Value.string K) := hc1 0 (by decide)
        have k2 : wc.cell? ⟨g1, o1 + i * 2 + 1, none⟩ = some (Value.string V) := hc1 1 (by decide)
        have k3 : wc.cell? ⟨g2, o2 + i * 2, none⟩ = some (Value.string K) := hc2 0 (by decide)
        have k4 : wc.cell? ⟨g2, o2 + i * 2 + 1, none⟩ = some (Value.string V) := hc2 1 (by decide)
        have hBd := HB.out.trans ((Below.refl wr.heap.size wr).drew.mono HB.out.size)
        have hSd : wr.drew.cell? ⟨b1, 2, none⟩ = some (Value.slice (some ⟨g1, o1, none⟩) n ca) ∧ wr.drew.cell? ⟨b2, 2, none⟩ = some (Value.slice (some ⟨g2, o2, none⟩) n cc) ∧ wr.drew.cell? ⟨g1, o1 + i * 2, none⟩ = some (Value.string K) ∧ wr.drew.cell? ⟨g1, o1 + i * 2 + 1, none⟩ = some (Value.string V) ∧ wr.drew.cell? ⟨g2, o2 + i * 2, none⟩ = some (Value.string K) ∧ wr.drew.cell? ⟨g2, o2 + i * 2 + 1, none⟩ = some (Value.string V) :=
          ⟨e12, e22, cell_kept k1 hBd, cell_kept k2 hBd, cell_kept k3 hBd, cell_kept k4 hBd⟩
        have HLT := Lib.hid hlt
        have HBD := Lib.hid hBd
        clear hc1 hc2 k1 k2 k3 k4 hBd hpr hlt hil hg1 hg2 e12 e22
        go_upto_region 6 with fail
        refine wp_region_held_drew (S := fun w' => w'.cell? ⟨b1, 2, none⟩ = some (Value.slice (some ⟨g1, o1, none⟩) n ca) ∧ w'.cell? ⟨b2, 2, none⟩ = some (Value.slice (some ⟨g2, o2, none⟩) n cc) ∧ w'.cell? ⟨g1, o1 + i * 2, none⟩ = some (Value.string K) ∧ w'.cell? ⟨g1, o1 + i * 2 + 1, none⟩ = some (Value.string V) ∧ w'.cell? ⟨g2, o2 + i * 2, none⟩ = some (Value.string K) ∧ w'.cell? ⟨g2, o2 + i * 2 + 1, none⟩ = some (Value.string V)) (by kernel_rfl) (hSd) (fun hHeld => ?_)
        refine tkH 0 hHeld ?_
        refine tkH 1 hHeld ?_
        refine tkH 2 hHeld ?_
        refine tkH 3 hHeld ?_
        refine tkH 4 hHeld ?_
        refine tkH 5 hHeld ?_
        refine tkH 6 hHeld ?_
        refine tkH 7 hHeld ?_
        refine tkH 8 hHeld ?_
        refine tkH 9 hHeld ?_
        refine tkH 10 hHeld ?_
        refine wpAnyH_done (by kernel_rfl) ?_ _
        have sK := str_ne_self' K
        have sV := str_ne_self' V
        go_wp2_with fail
        go_roundg (n - i)
        case rel => exact ⟨i + 1, by simp, by have := HG.out; have := HLT.out; omega, HLT.out, HBD.out, hSd.1, hSd.2.1⟩
        case measure => have := HG.out; have := HLT.out; omega
      · have hiI : ¬ (i : Int) < n := by omega
        go_wp2_with fail
        go_ret
        refine ⟨rfl, ?_⟩
        first | exact HB1.out.trans (HB.out.mono HB1.out.size) | (rw [← hb1]; exact HB1.out.trans (HB.out.mono HB1.out.size))

theorem samei_yes (w : World) (v v2 : Value) (out : List TkI) (h1 : TisAt w v out) (h2 : TisAt w v2 out) (hl : out.length ≤ maxLen) (hal : ∀ t ∈ out, t.attrs.length ≤ maxLen) :
    Calls Tryz.prog 17 #[v, v2, .bool true] w fun e w' => e = .returned (.bool true) ∧ Below w.heap.size w w' := by
  obtain ⟨ms, hr1, hm1, ht1⟩ := h1
  obtain ⟨ms2, hr2, hm2, ht2⟩ := h2
  obtain ⟨n, hn⟩ : ∃ n, out.length = n := ⟨_, rfl⟩
  rw [hn] at hm1 hm2
  obtain ⟨aa, ca, rfl, hca⟩ := hr1
  obtain ⟨ab, cc, rfl, hcc⟩ := hr2
  have HM1 := Lib.hid hm1; have HM2 := Lib.hid hm2; have HN := Lib.hid hn; have HT1 := Lib.hid ht1; have HT2 := Lib.hid ht2; have HCA := Lib.hid hca; have HCC := Lib.hid hcc; have HAL := Lib.hid hal
  rw [hm1, hm2]
  have hnn : n ≤ 9223372036854775807 := by unfold maxLen at hl; omega
  clear hm1 hm2 hn ht1 ht2 hca hcc hal
  go_enter Tryz.func17, Tryz.ntmps17
  go_wp2_with fail
  go_loopg [15] (n + 1) (fun f s15 wx => ∃ i : Nat, s15 = .int .i64 (i : Int) ∧ f + i = n + 1 ∧ i ≤ n ∧ Below w.heap.size w wx)
  case atStart => exact ⟨0, rfl, rfl, Nat.zero_le _, Below.refl _ _⟩
  case round =>
    obtain ⟨i, rfl, hg, hi, hB⟩ := hrel
    have HG := Lib.hid hg; have HB := Lib.hid hB
    have hi0 : (0 : Int) ≤ i := by omega
    clear hg hB
    by_cases hlt : i < n
    · have f1 : IntKind.i64.wrap ((i : Int) + 1) = (i : Int) + 1 := IntWalk.i64_in _ (by omega)
      have hil1 : i < ms.length := by have := HM1.out; omega
      have hil2 : i < ms2.length := by have := HM2.out; omega
      have hilo : i < out.length := by have := HN.out; omega
      have hiI : (i : Int) < n := by omega
      obtain ⟨g1, o1, rfl, hg1, hc1⟩ := HCA.out i hil1
      obtain ⟨g2, o2, rfl, hg2, hc2⟩ := HCC.out i hil2
      have t1 := HT1.out i hil1 hilo
      have t2 := HT2.out i hil2 hilo
      obtain ⟨m, hm⟩ : ∃ m, ms[i] = m := ⟨_, rfl⟩
      obtain ⟨m2, hm2⟩ : ∃ m2, ms2[i] = m2 := ⟨_, rfl⟩
      have hta := HAL.out out[i] (List.getElem_mem _)
      obtain ⟨t, ht⟩ : ∃ t, out[i] = t := ⟨_, rfl⟩
      rw [hm] at hc1 t1
      rw [hm2] at hc2 t2
      rw [ht] at t1 t2 hta
      have HSON := Lib.hid (show ∀ w', Below wr.heap.size wr w' → w'.cell? ⟨g1, o1 + i * 5, none⟩ = some (Value.int .i64 m.kind) ∧ w'.cell? ⟨g1, o1 + i * 5 + 1, none⟩ = some (Value.string m.name) ∧ w'.cell? ⟨g1, o1 + i * 5 + 2, none⟩ = some (Value.slice m.aa m.an m.ac) ∧ w'.cell? ⟨g1, o1 + i * 5 + 3, none⟩ = some (Value.string m.text) ∧ w'.cell? ⟨g1, o1 + i * 5 + 4, none⟩ = some (Value.int .i64 (m.at_ : Int)) ∧ w'.cell? ⟨g2, o2 + i * 5, none⟩ = some (Value.int .i64 m2.kind) ∧ w'.cell? ⟨g2, o2 + i * 5 + 1, none⟩ = some (Value.string m2.name) ∧ w'.cell? ⟨g2, o2 + i * 5 + 2, none⟩ = some (Value.slice m2.aa m2.an m2.ac) ∧ w'.cell? ⟨g2, o2 + i * 5 + 3, none⟩ = some (Value.string m2.text) ∧ w'.cell? ⟨g2, o2 + i * 5 + 4, none⟩ = some (Value.int .i64 (m2.at_ : Int)) ∧ Below wr.heap.size wr w' from fun w' hB' => by
        have hBB := HB.out.trans (hB'.mono HB.out.size)
        exact ⟨cell_kept (hc1 0 (by decide)) hBB, cell_kept (hc1 1 (by decide)) hBB, cell_kept (hc1 2 (by decide)) hBB, cell_kept (hc1 3 (by decide)) hBB, cell_kept (hc1 4 (by decide)) hBB, cell_kept (hc2 0 (by decide)) hBB, cell_kept (hc2 1 (by decide)) hBB, cell_kept (hc2 2 (by decide)) hBB, cell_kept (hc2 3 (by decide)) hBB, cell_kept (hc2 4 (by decide)) hBB, hB'⟩)
      have HONE := Lib.hid (show ∀ W, Below wr.heap.size wr W → Calls Tryz.prog 19 #[.agg #[.int .i64 m.kind, .string m.name, .slice m.aa m.an m.ac, .string m.text, .int .i64 (m.at_ : Int)], .agg #[.int .i64 m2.kind, .string m2.name, .slice m2.aa m2.an m2.ac, .string m2.text, .int .i64 (m2.at_ : Int)], .bool true] W fun e w' => e = .returned (.bool true) ∧ Below W.heap.size W w' from fun W hBW => by
        have hBB := HB.out.trans (hBW.mono HB.out.size)
        rw [t1.kind, t1.name, t1.text, t1.at_, t2.kind, t2.name, t2.text, t2.at_]
        exact onei_yes W _ _ _ _ _ _ _ _ true (fun _ => rfl) (t1.attrs.on hBB) (t2.attrs.on hBB) hta)
      have HLT := Lib.hid hlt
      clear hc1 hc2 t1 t2 hm hm2 ht hta hlt hil1 hil2 hilo hg1 hg2
      go_upto_region 6 with fail
      refine wp_region_held_drew (S := fun w' => w'.cell? ⟨g1, o1 + i * 5, none⟩ = some (Value.int .i64 m.kind) ∧ w'.cell? ⟨g1, o1 + i * 5 + 1, none⟩ = some (Value.string m.name) ∧ w'.cell? ⟨g1, o1 + i * 5 + 2, none⟩ = some (Value.slice m.aa m.an m.ac) ∧ w'.cell? ⟨g1, o1 + i * 5 + 3, none⟩ = some (Value.string m.text) ∧ w'.cell? ⟨g1, o1 + i * 5 + 4, none⟩ = some (Value.int .i64 (m.at_ : Int)) ∧ w'.cell? ⟨g2, o2 + i * 5, none⟩ = some (Value.int .i64 m2.kind) ∧ w'.cell? ⟨g2, o2 + i * 5 + 1, none⟩ = some (Value.string m2.name) ∧ w'.cell? ⟨g2, o2 + i * 5 + 2, none⟩ = some (Value.slice m2.aa m2.an m2.ac) ∧ w'.cell? ⟨g2, o2 + i * 5 + 3, none⟩ = some (Value.string m2.text) ∧ w'.cell? ⟨g2, o2 + i * 5 + 4, none⟩ = some (Value.int .i64 (m2.at_ : Int)) ∧ Below wr.heap.size wr w') (by kernel_rfl) (HSON.out _ (Below.refl _ _).drew) (fun hHeld => ?_)
      refine tkH 0 hHeld ?_
      refine tkH 1 hHeld ?_
      refine tkH 2 hHeld ?_
      refine tkH 3 hHeld ?_
      refine tkH 4 hHeld ?_
      refine tkH 5 hHeld ?_
      refine tkH 6 hHeld ?_
      refine tkH 7 hHeld ?_
      refine tkH 8 hHeld ?_
      refine wpAnyH_ready (rs := [9]) (by kernel_rfl) (by simp) ?_
      refine AllReadyH.cons rfl (fun K hK => ?_) AllReadyH.nil
      go_simp
      go_wp2_with (go_at_call 19; refine (HONE.out wr.drew (Below.refl _ _).drew).mono ?_; rintro en w4 ⟨rfl, hB4⟩; have hS4 := HSON.out w4 ((Below.refl _ _).drew.trans (hB4.mono (Nat.le_refl _))))
      refine hK.out _ _ (hS4) (fun hHeld => ?_)
      clear hK K
      refine tkH 10 hHeld ?_
      refine wpAnyH_done (by kernel_rfl) ?_ _
      have hBf := HB.out.trans (hS4.2.2.2.2.2.2.2.2.2.2.mono HB.out.size)
      have HBF := Lib.hid hBf
      clear hHeld hS4 hB4 hBf
      go_wp2_with fail
      go_roundg (n - i)
      case rel => exact ⟨i + 1, by simp, by have := HG.out; have := HLT.out; omega, HLT.out, HBF.out⟩
      case measure => have := HG.out; have := HLT.out; omega
    · have hiI : ¬ (i : Int) < n := by omega
      go_wp2_with fail
      go_ret
      exact ⟨rfl, HB.out⟩
end
end
end Go.Proofs.YtdipbfchlopeaaaGreatDoor
