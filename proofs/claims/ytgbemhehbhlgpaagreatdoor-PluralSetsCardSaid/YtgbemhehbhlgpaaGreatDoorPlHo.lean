/-
  Rules for numbers: Rule.Holds, Rule.Print, Is; what the library's variables hold.
-/
import Derived.Test.YtgbemhehbhlgpaaGreatDoorPlPa
namespace Go.Proofs.YtgbemhehbhlgpaaGreatDoor
open Go.RowKit Go.PlainAid

set_option maxRecDepth 100000 in
set_option maxHeartbeats 2000000 in
theorem print_any (v : Value) (t : ByteArray) (rows : List (List Rl)) (w : World) (hv : RuleAt w v t rows) :
    Calls Tryz.prog 18 #[v] w fun e w' => e = .returned (.string t) ∧ w = w' := by
  obtain ⟨b, f, rfl, hk, _⟩ := hv
  have c0 := hk.cell 0
  simp at c0
  go_enter Tryz.func18, Tryz.ntmps18
  go_wp2_with fail
  go_ret
  exact ⟨rfl, rfl⟩
set_option maxRecDepth 100000 in
set_option maxHeartbeats 2000000 in
theorem holds_yes {neg : Bool} {ds : ByteArray} {k : Nat} (hr : rightB neg ds k = true) (v : Value) (t : ByteArray) (rows : List (List Rl)) (w : World) (hv : RuleAt w v t rows) (hP : PG w) :
    Calls Tryz.prog 17 #[v, .agg #[.bool neg, .string ds, .int .i64 k]] w fun e w' => e = .returned (.bool (rowsH ds k rows)) ∧ Below w.heap.size w w' := by
  obtain ⟨b, fv, rfl, hk, g, lb, rfl, eg, hH⟩ := hv
  have hB0 := (Below.refl w.heap.size w).alloc (Nat.le_refl _) (.cells #[.bool neg, .string ds, .int .i64 k] 23)
  have hop := operands_yes neg ds k (w.alloc (.cells #[.bool neg, .string ds, .int .i64 k] 23)) hr
  have hH := fun (W : World) (hW : Below w.heap.size w W) => hH W neg ds k hW (hP.on hW) hr
  rw [opsA_eq hr] at hop hH
  generalize digs (dval ds / 10 ^ k) = D1 at *
  generalize digs (dval ds % 10 ^ k) = D2 at *
  generalize digs (opT' ds k) = D3 at *
  generalize opW ds k = wv at *
  generalize rowsH ds k rows = R at *
  clear hr
  go_enter Tryz.func17, Tryz.ntmps17
  go_wp2_with fail
  refine hop.mono ?_
  rintro e w1 ⟨rfl, hB1⟩
  have hB2 := hB0.trans (hB1.mono hB0.size)
  have kO := Blk.new w1 #[.bool false, .string ds, .int .i64 k, .bool false, .string D1, .int .i64 0, .bool false, .string D2, .int .i64 0, .bool false, .string D3, .int .i64 0, .int .i64 k, .int .i64 wv] 70
  have hB3 := hB2.alloc hB2.size (.cells #[.bool false, .string ds, .int .i64 k, .bool false, .string D1, .int .i64 0, .bool false, .string D2, .int .i64 0, .bool false, .string D3, .int .i64 0, .int .i64 k, .int .i64 wv] 70)
  have hS := Hold2.mk kO (hk.on hB3) hB3 (Nat.le_refl _)
  clear hop hB0 hB1 hB2 kO hB3 hk
  go_upto_region 2 with fail
  generalize w1.alloc (.cells #[.bool false, .string ds, .int .i64 k, .bool false, .string D1, .int .i64 0, .bool false, .string D2, .int .i64 0, .bool false, .string D3, .int .i64 0, .int .i64 k, .int .i64 wv] 70) = w3 at *
  go_region_held3 (fun w' => (∀ o, w'.cell? ⟨w1.heap.size, o, none⟩ = #[Value.bool false, Value.string ds, Value.int .i64 (k : Int), Value.bool false, Value.string D1, Value.int .i64 0, Value.bool false, Value.string D2, Value.int .i64 0, Value.bool false, Value.string D3, Value.int .i64 0, Value.int .i64 (k : Int), Value.int .i64 (wv : Int)][o]?) ∧ (∀ o, w'.cell? ⟨b, o, none⟩ = #[Value.string t, Value.func (.func g) #[] lb][o]?) ∧ Below w.heap.size w w')
    (first | exact hS4.two | exact hS.drew.two)
    (first
      | (go_at_fn g; refine (hold_call (hH _ hS.drew.2.2.2.2.1) hS.drew).mono ?_; rintro e w4 ⟨rfl, hS4⟩))
  have hE := hS4.2.2.2.2.1
  clear hS4 hS hH
  go_wp2_with fail
  go_ret
  exact ⟨rfl, hE⟩
set_option maxRecDepth 100000 in
set_option maxHeartbeats 2000000 in
theorem holds_no {neg : Bool} {ds : ByteArray} {sc : Int} (hr : rightB neg ds sc = false) (v : Value) (t : ByteArray) (rows : List (List Rl)) (w : World) (hv : RuleAt w v t rows) :
    Calls Tryz.prog 17 #[v, .agg #[.bool neg, .string ds, .int .i64 sc]] w fun e w' => e = .returned (.bool false) ∧ Below w.heap.size w w' := by
  obtain ⟨b, fv, rfl, hk, _⟩ := hv
  have hB0 := (Below.refl w.heap.size w).alloc (Nat.le_refl _) (.cells #[.bool neg, .string ds, .int .i64 sc] 23)
  have hop := operands_no neg ds sc (w.alloc (.cells #[.bool neg, .string ds, .int .i64 sc] 23)) hr
  clear hr
  go_enter Tryz.func17, Tryz.ntmps17
  go_wp2_with fail
  refine hop.mono ?_
  rintro e w1 ⟨rfl, hB1⟩
  have hB2 := hB0.trans (hB1.mono hB0.size)
  go_upto_region 2 with fail
  have hB3 := fun o => (hB2.alloc hB2.size o)
  go_quiet (fail)
  go_wp2_with fail
  go_ret
  exact ⟨rfl, bdN0 (hB3 _) nq⟩

def namesB : ByteArray := ⟨#[122, 101, 114, 111, 32, 111, 110, 101, 32, 116, 119, 111, 32, 102, 101, 119, 32, 109, 97, 110, 121, 32, 111, 116, 104, 101, 114]⟩
def six : List ByteArray := [⟨#[122, 101, 114, 111]⟩, ⟨#[111, 110, 101]⟩, ⟨#[116, 119, 111]⟩, ⟨#[102, 101, 119]⟩, ⟨#[109, 97, 110, 121]⟩, ⟨#[111, 116, 104, 101, 114]⟩]
/-- The table of blanks. -/
abbrev SpTab (w : World) : Prop := Lib.TabIs Tryz.prog w "strings.asciiSpace" .u8 Lib.asciiSpaceTab
theorem fields_six (w : World) (hT : SpTab w) : Calls Tryz.prog 32 #[.string namesB] w fun e w' => e = .returned (.slice (some ⟨w.heap.size, 0, none⟩) 6 6) ∧ w' = w.alloc (.cells (six.map Value.string).toArray 9) := by
  have h := Tryz.strings_Fields namesB w (by decide) (by
    intro j b hj
    have hb : b ∈ namesB.data.toList := List.mem_of_getElem? hj
    have : ∀ b ∈ namesB.data.toList, b.toNat < 128 := by decide +kernel
    exact this b hb) hT
  have e : Lib.fields namesB.data.toList = six.map (fun b => b.data.toList) := by decide +kernel
  rw [e] at h
  exact h
set_option maxRecDepth 100000 in
set_option maxHeartbeats 2000000 in
theorem is_any (c : ByteArray) (w : World) (hT : SpTab w) : Calls Tryz.prog 15 #[.string c] w fun e w' => e = .returned (.bool (Lib.containsS six c)) ∧ Below w.heap.size w w' := by
  have hf := fields_six w hT
  have hc := Tryz.slices_Contains_string w.heap.size 0 6 6 six c (w.alloc (.cells (six.map Value.string).toArray 9)) (by decide) (by decide) (fun j hj => by
    rw [(Blk.new w (six.map Value.string).toArray 9).cell]
    have : ∀ j : Fin 6, ((six.map Value.string).toArray)[0 + j.val]? = some (.string (six.getD j.val ByteArray.empty)) := by
      intro j
      match j with
      | ⟨0, _⟩ => rfl
      | ⟨1, _⟩ => rfl
      | ⟨2, _⟩ => rfl
      | ⟨3, _⟩ => rfl
      | ⟨4, _⟩ => rfl
      | ⟨5, _⟩ => rfl
    exact this ⟨j, hj⟩)
  have hB := (Below.refl w.heap.size w).alloc (Nat.le_refl _) (.cells (six.map Value.string).toArray 9)
  have e6 : six.take 6 = six := rfl
  rw [e6] at hc
  generalize w.alloc (.cells (six.map Value.string).toArray 9) = w1 at *
  generalize Lib.containsS six c = R at *
  unfold namesB at hf
  go_enter Tryz.func15, Tryz.ntmps15
  go_wp2_with fail
  refine hf.mono ?_
  rintro e w' ⟨rfl, rfl⟩
  go_wp2_with fail
  refine hc.mono ?_
  rintro e w'' ⟨rfl, rfl⟩
  go_wp2_with fail
  go_ret
  exact ⟨rfl, hB⟩
end Go.Proofs.YtgbemhehbhlgpaaGreatDoor
