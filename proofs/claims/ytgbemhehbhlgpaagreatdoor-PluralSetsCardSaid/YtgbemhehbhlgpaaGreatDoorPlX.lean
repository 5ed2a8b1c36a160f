/-
  Rules for numbers: rows of rows of tests; does a rule hold: the walk of its closures.
-/
import Derived.Test.YtgbemhehbhlgpaaGreatDoorPlU
namespace Go.Proofs.YtgbemhehbhlgpaaGreatDoor
open Go.RowKit Go.PlainAid

/-- A function value with what it has captured; a slice. -/
def TsV (x : Nat × Array Value) : Value := .func (.func x.1) #[] x.2
def RwV (x : Option Addr × Nat × Nat) : Value := .slice x.1 x.2.1 x.2.2
def TsE : ETy (Nat × Array Value) where
  T := 74
  ST := 104
  sz := 1
  bs := 8
  z := .nilFunc
  enc := fun x => [TsV x]
  hsz := by decide
  hbs := by decide
  hlen := fun _ => rfl
  hz := rfl
  info := by kernel_rfl
  und := Tryz.underlying104
  hone := fun _ => by simp [Value.oneCell', TsV]
def RwE : ETy (Option Addr × Nat × Nat) where
  T := 104
  ST := 96
  sz := 1
  bs := 24
  z := .slice none 0 0
  enc := fun x => [RwV x]
  hsz := by decide
  hbs := by decide
  hlen := fun _ => rfl
  hz := rfl
  info := by kernel_rfl
  und := Tryz.underlying96
  hone := fun _ => by simp [Value.oneCell', RwV]
set_option maxRecDepth 100000 in
set_option maxHeartbeats 2000000 in
theorem idx_test (g : Nat) (lb : Array Value) (eg : ∀ args w, (callFunc g args).run Tryz.prog w = .ok (.enter g args) w) (v : Value) (l : List (Nat × Array Value)) (w : World) (hv : GAt TsE w v l) (hl : l.length ≤ 100000000)
    (b : Nat → Bool) (hp : ∀ (W : World) (i : Nat) (hi : i < l.length), Below w.heap.size w W → Calls Tryz.prog g (#[TsV (l[i])] ++ lb) W fun e w' => e = .returned (.bool (b i)) ∧ Below W.heap.size W w') :
    Calls Tryz.prog 71 #[v, .func (.func g) #[] lb] w fun e w' => (∃ k : Int, e = .returned (.int .i64 k) ∧ decide (0 ≤ k) = anyB b l.length) ∧ Below w.heap.size w w' := by
  obtain ⟨a, cap, rfl, hc⟩ := hv
  have HC := Lib.hid hc
  have HP := Lib.hid hp
  clear hc hp
  go_enter Tryz.func71, Tryz.ntmps71
  go_wp2_with fail
  go_loopg [8] l.length (fun gg s8 wr => ∃ i : Nat, s8 = .int .i64 (i : Int) ∧ i + gg = l.length ∧ (∀ j, j < i → b j = false) ∧ Below w.heap.size w wr)
  case atStart => exact ⟨0, rfl, by omega, fun j hj => absurd hj (by omega), Below.refl _ _⟩
  case round =>
    obtain ⟨i, rfl, hg, hm, hB⟩ := hrel
    have HM := Lib.hid hm
    clear hm
    by_cases hi : i < l.length
    · obtain ⟨gb, off, rfl, hgw, h0⟩ := HC.out i hi
      have cS := HP.out wr i hi hB
      have hgr : gb < wr.heap.size := by have := hB.size; omega
      have h1 := h0 0 (by decide)
      have e0 := (hB.cell (p := ⟨gb, off + (i * 1 + 0), none⟩) hgw).trans h1
      rw [show off + (i * 1 + 0) = off + i by omega] at e0
      have d0 : wr.cell? ⟨gb, off + i, none⟩ = some (TsV l[i]) := e0
      clear h1 e0
      have hiI : (i : Int) < l.length := by omega
      clear h0
      generalize hx : l[i] = x at *
      have hVx : ∀ y, TsV y = TsV y := fun _ => rfl
      clear hVx
      obtain ⟨xa, xb⟩ := x
      simp only [TsV] at d0 cS
      cases hb : b i with
      | true =>
        rw [hb] at cS
        have hany := anyB_yes hi hb
        have HA := Lib.hid hany
        have hi0 : (0 : Int) ≤ i := by omega
        clear hb hx hany
        go_wp2_with (go_at_fn g; refine cS.mono ?_; rintro e W' ⟨rfl, hbc⟩)
        go_ret
        exact ⟨⟨_, rfl, by rw [HA.out]; exact decide_eq_true hi0⟩, hB.trans (hbc.mono hB.size)⟩
      | false =>
        rw [hb] at cS
        have hm2 : ∀ j, j < i + 1 → b j = false := fun j hj => by
          by_cases e : j = i
          · rw [e]; exact hb
          · exact HM.out j (by omega)
        have HM2 := Lib.hid hm2
        clear hb hx hm2
        go_wp2_with (go_at_fn g; refine cS.mono ?_; rintro e W' ⟨rfl, hbc⟩)
        go_roundg (gk - 1)
        case rel => exact ⟨i + 1, by push_cast; rfl, by omega, HM2.out, hB.trans (hbc.mono hB.size)⟩
        case measure => omega
    · have hend : anyB b l.length = false := anyB_no (fun j hj => HM.out j (by omega))
      have HE := Lib.hid hend
      have hiI : ¬ (i : Int) < l.length := by omega
      clear hend
      go_wp2_with fail
      go_ret
      exact ⟨⟨_, rfl, by rw [HE.out]; rfl⟩, hB⟩
set_option maxRecDepth 100000 in
theorem has_test (g : Nat) (lb : Array Value) (eg : ∀ args w, (callFunc g args).run Tryz.prog w = .ok (.enter g args) w) (v : Value) (l : List (Nat × Array Value)) (w : World) (hv : GAt TsE w v l) (hl : l.length ≤ 100000000)
    (b : Nat → Bool) (hp : ∀ (W : World) (i : Nat) (hi : i < l.length), Below w.heap.size w W → Calls Tryz.prog g (#[TsV (l[i])] ++ lb) W fun e w' => e = .returned (.bool (b i)) ∧ Below W.heap.size W w') :
    Calls Tryz.prog 46 #[v, .func (.func g) #[] lb] w fun e w' => e = .returned (.bool (anyB b l.length)) ∧ Below w.heap.size w w' := by
  have c := idx_test g lb eg v l w hv hl b hp
  clear hp hv
  go_enter Tryz.func46, Tryz.ntmps46
  go_wp2_with fail
  refine c.mono ?_
  rintro e w' ⟨⟨k, rfl, hk⟩, hB⟩
  have HK := Lib.hid hk
  clear hk
  by_cases h0 : 0 ≤ k
  · go_wp2_with fail
    go_ret
    exact ⟨ret_bool (by rw [← HK.out, decide_eq_true h0]), hB⟩
  · go_wp2_with fail
    go_ret
    exact ⟨ret_bool (by rw [← HK.out, decide_eq_false (by omega)]), hB⟩

set_option maxRecDepth 100000 in
set_option maxHeartbeats 2000000 in
theorem idx_row (g : Nat) (lb : Array Value) (eg : ∀ args w, (callFunc g args).run Tryz.prog w = .ok (.enter g args) w) (v : Value) (l : List (Option Addr × Nat × Nat)) (w : World) (hv : GAt RwE w v l) (hl : l.length ≤ 100000000)
    (b : Nat → Bool) (hp : ∀ (W : World) (i : Nat) (hi : i < l.length), Below w.heap.size w W → Calls Tryz.prog g (#[RwV (l[i])] ++ lb) W fun e w' => e = .returned (.bool (b i)) ∧ Below W.heap.size W w') :
    Calls Tryz.prog 70 #[v, .func (.func g) #[] lb] w fun e w' => (∃ k : Int, e = .returned (.int .i64 k) ∧ decide (0 ≤ k) = anyB b l.length) ∧ Below w.heap.size w w' := by
  obtain ⟨a, cap, rfl, hc⟩ := hv
  have HC := Lib.hid hc
  have HP := Lib.hid hp
  clear hc hp
  go_enter Tryz.func70, Tryz.ntmps70
  go_wp2_with fail
  go_loopg [8] l.length (fun gg s8 wr => ∃ i : Nat, s8 = .int .i64 (i : Int) ∧ i + gg = l.length ∧ (∀ j, j < i → b j = false) ∧ Below w.heap.size w wr)
  case atStart => exact ⟨0, rfl, by omega, fun j hj => absurd hj (by omega), Below.refl _ _⟩
  case round =>
    obtain ⟨i, rfl, hg, hm, hB⟩ := hrel
    have HM := Lib.hid hm
    clear hm
    by_cases hi : i < l.length
    · obtain ⟨gb, off, rfl, hgw, h0⟩ := HC.out i hi
      have cS := HP.out wr i hi hB
      have hgr : gb < wr.heap.size := by have := hB.size; omega
      have h1 := h0 0 (by decide)
      have e0 := (hB.cell (p := ⟨gb, off + (i * 1 + 0), none⟩) hgw).trans h1
      rw [show off + (i * 1 + 0) = off + i by omega] at e0
      have d0 : wr.cell? ⟨gb, off + i, none⟩ = some (RwV l[i]) := e0
      clear h1 e0
      have hiI : (i : Int) < l.length := by omega
      clear h0
      generalize hx : l[i] = x at *
      have hVx : ∀ y, RwV y = RwV y := fun _ => rfl
      clear hVx
      obtain ⟨xa, xb, xc⟩ := x
      simp only [RwV] at d0 cS
      cases hb : b i with
      | true =>
        rw [hb] at cS
        have hany := anyB_yes hi hb
        have HA := Lib.hid hany
        have hi0 : (0 : Int) ≤ i := by omega
        clear hb hx hany
        go_wp2_with (go_at_fn g; refine cS.mono ?_; rintro e W' ⟨rfl, hbc⟩)
        go_ret
        exact ⟨⟨_, rfl, by rw [HA.out]; exact decide_eq_true hi0⟩, hB.trans (hbc.mono hB.size)⟩
      | false =>
        rw [hb] at cS
        have hm2 : ∀ j, j < i + 1 → b j = false := fun j hj => by
          by_cases e : j = i
          · rw [e]; exact hb
          · exact HM.out j (by omega)
        have HM2 := Lib.hid hm2
        clear hb hx hm2
        go_wp2_with (go_at_fn g; refine cS.mono ?_; rintro e W' ⟨rfl, hbc⟩)
        go_roundg (gk - 1)
        case rel => exact ⟨i + 1, by push_cast; rfl, by omega, HM2.out, hB.trans (hbc.mono hB.size)⟩
        case measure => omega
    · have hend : anyB b l.length = false := anyB_no (fun j hj => HM.out j (by omega))
      have HE := Lib.hid hend
      have hiI : ¬ (i : Int) < l.length := by omega
      clear hend
      go_wp2_with fail
      go_ret
      exact ⟨⟨_, rfl, by rw [HE.out]; rfl⟩, hB⟩
set_option maxRecDepth 100000 in
theorem has_row (g : Nat) (lb : Array Value) (eg : ∀ args w, (callFunc g args).run Tryz.prog w = .ok (.enter g args) w) (v : Value) (l : List (Option Addr × Nat × Nat)) (w : World) (hv : GAt RwE w v l) (hl : l.length ≤ 100000000)
    (b : Nat → Bool) (hp : ∀ (W : World) (i : Nat) (hi : i < l.length), Below w.heap.size w W → Calls Tryz.prog g (#[RwV (l[i])] ++ lb) W fun e w' => e = .returned (.bool (b i)) ∧ Below W.heap.size W w') :
    Calls Tryz.prog 44 #[v, .func (.func g) #[] lb] w fun e w' => e = .returned (.bool (anyB b l.length)) ∧ Below w.heap.size w w' := by
  have c := idx_row g lb eg v l w hv hl b hp
  clear hp hv
  go_enter Tryz.func44, Tryz.ntmps44
  go_wp2_with fail
  refine c.mono ?_
  rintro e w' ⟨⟨k, rfl, hk⟩, hB⟩
  have HK := Lib.hid hk
  clear hk
  by_cases h0 : 0 ≤ k
  · go_wp2_with fail
    go_ret
    exact ⟨ret_bool (by rw [← HK.out, decide_eq_true h0]), hB⟩
  · go_wp2_with fail
    go_ret
    exact ⟨ret_bool (by rw [← HK.out, decide_eq_false (by omega)]), hB⟩


/-- A slice of tests that tell of relations; rows of them. -/
def RowIs (lo : Nat) (w : World) (v : Value) (rs : List Rl) : Prop :=
  ∃ ys : List (Nat × Array Value), GAt TsE w v ys ∧ ys.length = rs.length ∧ ∀ j (hj : j < ys.length) (hr : j < rs.length), Asks lo w (TsV ys[j]) (fun ds k => rlH ds k rs[j])
def AnyIs (lo : Nat) (w : World) (v : Value) (rows : List (List Rl)) : Prop :=
  ∃ xs : List (Option Addr × Nat × Nat), GAt RwE w v xs ∧ xs.length = rows.length ∧ ∀ i (hi : i < xs.length) (hr : i < rows.length), RowIs lo w (RwV xs[i]) rows[i]
theorem RowIs.on {lo : Nat} {w w' : World} {v : Value} {rs : List Rl} (h : RowIs lo w v rs) (hB : Below w.heap.size w w') : RowIs lo w' v rs := by
  obtain ⟨ys, h1, h2, h3⟩ := h
  exact ⟨ys, h1.on hB, h2, fun j hj hr => (h3 j hj hr).on (.of hB)⟩
theorem AnyIs.on {lo : Nat} {w w' : World} {v : Value} {rows : List (List Rl)} (h : AnyIs lo w v rows) (hB : Below w.heap.size w w') : AnyIs lo w' v rows := by
  obtain ⟨xs, h1, h2, h3⟩ := h
  exact ⟨xs, h1.on hB, h2, fun i hi hr => (h3 i hi hr).on hB⟩

/-- A decimal's operands, cell by cell. -/
abbrev opsL (ds : ByteArray) (k : Nat) (D1 D2 D3 : ByteArray) (wv : Nat) : Array Value := #[.bool false, .string ds, .int .i64 k, .bool false, .string D1, .int .i64 0, .bool false, .string D2, .int .i64 0, .bool false, .string D3, .int .i64 0, .int .i64 k, .int .i64 wv]

set_option maxRecDepth 100000 in
set_option maxHeartbeats 2000000 in
theorem n1_any (ds : ByteArray) (k : Nat) (D1 D2 D3 : ByteArray) (wv : Nat) (g : Nat) (lb : Array Value) (eg : ∀ args w, (callFunc g args).run Tryz.prog w = .ok (.enter g args) w) (ob : Nat) (h : Bool) (W : World) (hk : Blk W ob #[.bool false, .string ds, .int .i64 k, .bool false, .string D1, .int .i64 0, .bool false, .string D2, .int .i64 0, .bool false, .string D3, .int .i64 0, .int .i64 k, .int .i64 wv])
    (hc : Calls Tryz.prog g (#[.agg #[.bool false, .string ds, .int .i64 k, .bool false, .string D1, .int .i64 0, .bool false, .string D2, .int .i64 0, .bool false, .string D3, .int .i64 0, .int .i64 k, .int .i64 wv]] ++ lb) W fun e w' => e = .returned (.bool h) ∧ Below W.heap.size W w') :
    Calls Tryz.prog 47 #[.func (.func g) #[] lb, .pointer (some ⟨ob, 0, none⟩)] W fun e w' => e = .returned (.bool (!h)) ∧ Below W.heap.size W w' := by
  have c0 := hk.cell 0; have c1 := hk.cell 1; have c2 := hk.cell 2; have c3 := hk.cell 3; have c4 := hk.cell 4; have c5 := hk.cell 5; have c6 := hk.cell 6
  have c7 := hk.cell 7; have c8 := hk.cell 8; have c9 := hk.cell 9; have c10 := hk.cell 10; have c11 := hk.cell 11; have c12 := hk.cell 12; have c13 := hk.cell 13
  simp at c0 c1 c2 c3 c4 c5 c6 c7 c8 c9 c10 c11 c12 c13
  clear hk
  go_enter Tryz.func47, Tryz.ntmps47
  go_wp2_with (go_at_fn g; refine hc.mono ?_; rintro e w1 ⟨rfl, hB⟩)
  go_ret
  exact ⟨rfl, hB⟩

set_option maxRecDepth 100000 in
set_option maxHeartbeats 2000000 in
theorem n2_any (lo : Nat) (ds : ByteArray) (k : Nat) (D1 D2 D3 : ByteArray) (wv : Nat) {neg : Bool} (hr : rightB neg ds k = true) (heq : opsA ds k = .agg #[.bool false, .string ds, .int .i64 k, .bool false, .string D1, .int .i64 0, .bool false, .string D2, .int .i64 0, .bool false, .string D3, .int .i64 0, .int .i64 k, .int .i64 wv]) (ob : Nat) (W0 W : World) (x : Option Addr × Nat × Nat) (rs : List Rl) (hR : RowIs lo W0 (RwV x) rs) (hl : rs.length ≤ 10000) (hB0 : Below W0.heap.size W0 W) (hk : Blk W ob #[.bool false, .string ds, .int .i64 k, .bool false, .string D1, .int .i64 0, .bool false, .string D2, .int .i64 0, .bool false, .string D3, .int .i64 0, .int .i64 k, .int .i64 wv]) (hP : PG W) :
    Calls Tryz.prog 45 #[RwV x, .pointer (some ⟨ob, 0, none⟩)] W fun e w' => e = .returned (.bool (rs.all (rlH ds k))) ∧ Below W.heap.size W w' := by
  obtain ⟨ys, h1, h2, h3⟩ := hR
  have hht := has_test 47 #[.pointer (some ⟨ob, 0, none⟩)] (enters_of Tryz.func47 (by kernel_rfl) rfl) (RwV x) ys W (h1.on hB0) (by omega) (fun i => !(rlH ds k (rs.getD i ⟨0, 0, false, []⟩))) (fun W' i hi hB' => by
    have hir : i < rs.length := by omega
    obtain ⟨g, lb, e1, eg, hc⟩ := h3 i hi hir
    have hc := hc W' neg ds k (.of (hB0.trans (hB'.mono hB0.size))) (hP.on hB') hr
    rw [heq] at hc
    have e : rs.getD i ⟨0, 0, false, []⟩ = rs[i] := by rw [List.getD_eq_getElem?_getD, List.getElem?_eq_getElem hir]; rfl
    simp only [e]
    rw [e1]
    exact n1_any ds k D1 D2 D3 wv g lb eg ob _ W' (hk.on hB') hc)
  have hany : (!anyB (fun i => !(rlH ds k (rs.getD i ⟨0, 0, false, []⟩))) ys.length) = rs.all (rlH ds k) := by
    rw [h2, anyB_list rs (fun r => !(rlH ds k r)) _ (fun i hi => by rw [List.getD_eq_getElem?_getD, List.getElem?_eq_getElem hi]; rfl), List.not_any_eq_all_not]
    simp
  rw [← hany]
  generalize anyB (fun i => !(rlH ds k (rs.getD i ⟨0, 0, false, []⟩))) ys.length = R at *
  obtain ⟨xa, xb, xc⟩ := x
  simp only [RwV] at hht ⊢
  clear h1 h2 h3 hk heq hr hany
  go_enter Tryz.func45, Tryz.ntmps45
  go_wp2_with fail
  refine hht.mono ?_
  rintro e w1 ⟨rfl, hB⟩
  go_wp2_with fail
  go_ret
  exact ⟨rfl, hB⟩

set_option maxRecDepth 100000 in
set_option maxHeartbeats 2000000 in
theorem n3_any (lo : Nat) {neg : Bool} {ds : ByteArray} {k : Nat} (hr : rightB neg ds k = true) (ab : Nat) (av : Value) (W : World) (rows : List (List Rl)) (hA : AnyIs lo W av rows) (hl : rows.length ≤ 10000) (hl2 : ∀ r ∈ rows, r.length ≤ 10000) (hk : Blk W ab #[av]) (hP : PG W) :
    Calls Tryz.prog 43 #[opsA ds k, .pointer (some ⟨ab, 0, none⟩)] W fun e w' => e = .returned (.bool (rowsH ds k rows)) ∧ Below W.heap.size W w' := by
  obtain ⟨xs, h1, h2, h3⟩ := hA
  have heq := opsA_eq hr
  rw [heq]
  generalize digs (dval ds / 10 ^ k) = D1 at *
  generalize digs (dval ds % 10 ^ k) = D2 at *
  generalize digs (opT' ds k) = D3 at *
  generalize opW ds k = wv at *
  have hB0 := (Below.refl W.heap.size W).alloc (Nat.le_refl _) (.cells #[.bool false, .string ds, .int .i64 k, .bool false, .string D1, .int .i64 0, .bool false, .string D2, .int .i64 0, .bool false, .string D3, .int .i64 0, .int .i64 k, .int .i64 wv] 70)
  have hO := Blk.new W #[.bool false, .string ds, .int .i64 k, .bool false, .string D1, .int .i64 0, .bool false, .string D2, .int .i64 0, .bool false, .string D3, .int .i64 0, .int .i64 k, .int .i64 wv] 70
  have hhr := has_row 45 #[.pointer (some ⟨W.heap.size, 0, none⟩)] (enters_of Tryz.func45 (by kernel_rfl) rfl) av xs _ (h1.on hB0) (by omega) (fun i => (rows.getD i []).all (rlH ds k)) (fun W' i hi hB' => by
    have hir : i < rows.length := by omega
    have e : rows.getD i [] = rows[i] := by rw [List.getD_eq_getElem?_getD, List.getElem?_eq_getElem hir]; rfl
    simp only [e]
    exact n2_any lo ds k D1 D2 D3 wv hr heq W.heap.size W W' xs[i] rows[i] (h3 i hi hir) (hl2 _ (List.getElem_mem hir)) (hB0.trans (hB'.mono hB0.size)) (hO.on hB') (hP.on (hB0.trans (hB'.mono hB0.size))))
  have hany : anyB (fun i => (rows.getD i []).all (rlH ds k)) xs.length = rowsH ds k rows := by
    rw [h2]
    exact anyB_list rows (fun all => all.all (rlH ds k)) _ (fun i hi => by rw [List.getD_eq_getElem?_getD, List.getElem?_eq_getElem hi]; rfl)
  rw [hany] at hhr
  generalize rowsH ds k rows = R at *
  have k0 := (hk.alloc (.cells #[.bool false, .string ds, .int .i64 k, .bool false, .string D1, .int .i64 0, .bool false, .string D2, .int .i64 0, .bool false, .string D3, .int .i64 0, .int .i64 k, .int .i64 wv] 70)).cell 0
  simp at k0
  obtain ⟨va, vc, rfl⟩ := h1.form
  clear h1 h2 h3 hk heq hr hany hO
  go_enter Tryz.func43, Tryz.ntmps43
  go_wp2_with fail
  refine hhr.mono ?_
  rintro e w1 ⟨rfl, hB⟩
  go_wp2_with fail
  go_ret
  exact ⟨rfl, hB0.trans (hB.mono hB0.size)⟩
set_option maxRecDepth 100000 in
theorem n0_any (ds : ByteArray) (k : Nat) (W : World) : Calls Tryz.prog 38 #[opsA ds k] W fun e w' => e = .returned (.bool true) ∧ Below W.heap.size W w' := by
  have hB0 := fun c => (Below.refl W.heap.size W).alloc (Nat.le_refl _) (.cells c 70)
  go_enter Tryz.func38, Tryz.ntmps38
  go_wp2_with fail
  go_ret
  exact ⟨rfl, hB0 _⟩
end Go.Proofs.YtgbemhehbhlgpaaGreatDoor
