/-
  The document's answer: references.
-/
import Derived.Test.YtnmpbphnfiiafaaGreatDoorXmQb
namespace Go.Proofs.YtnmpbphnfiiafaaGreatDoor
open Go.RowKit Go.PlainAid

theorem pre_one (d : ByteArray) (c : UInt8) (hc : c ≠ 0) (w : World) : Calls Tryz.prog 40 #[.string d, .string ⟨#[c]⟩] w fun e w' => e = .returned (.bool (bt d 0 == (c.toNat : Int))) ∧ w = w' := by
  have h := prefix_at d 0 [c] (by simpa using hc) w
  rw [show d.extract 0 d.size = d by simp] at h
  refine h.mono fun e w' ⟨h1, h2⟩ => ⟨?_, h2⟩
  rw [h1]
  simp [wdAt]
theorem lt_no {X : ByteArray} {l : List UInt8} (h : X ≠ ⟨l.toArray⟩) : (l == X.toList) = false := by
  have := tl_no h
  rw [Bool.eq_false_iff] at this ⊢
  intro hc
  exact this (by simp at hc ⊢; exact hc.symm)
section
set_option maxRecDepth 100000
set_option maxHeartbeats 4000000
theorem rNamed_none (b : ByteArray) (h : fiveX b = none) (w : World) : Calls Tryz.prog 102 #[.string b] w fun e w' => e = .returned (.int .i32 0) ∧ w = w' := by
  obtain ⟨n1, n2, n3, n4, n5⟩ := five_none h
  have e1 := tl_no n1; have e2 := tl_no n2; have e3 := tl_no n3; have e4 := tl_no n4; have e5 := tl_no n5
  have d1 := lt_no n1; have d2 := lt_no n2; have d3 := lt_no n3; have d4 := lt_no n4; have d5 := lt_no n5
  clear n1 n2 n3 n4 n5 h
  have i0 : ∀ w : World, (Instr.index 147 (.agg #[.string ⟨#[108, 116]⟩, .string ⟨#[103, 116]⟩, .string ⟨#[97, 109, 112]⟩, .string ⟨#[113, 117, 111, 116]⟩, .string ⟨#[97, 112, 111, 115]⟩]) (.int .i64 0)).run Tryz.prog w = .ok (.string ⟨#[108, 116]⟩) w := fun _ => by kernel_rfl
  have i1 : ∀ w : World, (Instr.index 147 (.agg #[.string ⟨#[108, 116]⟩, .string ⟨#[103, 116]⟩, .string ⟨#[97, 109, 112]⟩, .string ⟨#[113, 117, 111, 116]⟩, .string ⟨#[97, 112, 111, 115]⟩]) (.int .i64 1)).run Tryz.prog w = .ok (.string ⟨#[103, 116]⟩) w := fun _ => by kernel_rfl
  have i2 : ∀ w : World, (Instr.index 147 (.agg #[.string ⟨#[108, 116]⟩, .string ⟨#[103, 116]⟩, .string ⟨#[97, 109, 112]⟩, .string ⟨#[113, 117, 111, 116]⟩, .string ⟨#[97, 112, 111, 115]⟩]) (.int .i64 2)).run Tryz.prog w = .ok (.string ⟨#[97, 109, 112]⟩) w := fun _ => by kernel_rfl
  have i3 : ∀ w : World, (Instr.index 147 (.agg #[.string ⟨#[108, 116]⟩, .string ⟨#[103, 116]⟩, .string ⟨#[97, 109, 112]⟩, .string ⟨#[113, 117, 111, 116]⟩, .string ⟨#[97, 112, 111, 115]⟩]) (.int .i64 3)).run Tryz.prog w = .ok (.string ⟨#[113, 117, 111, 116]⟩) w := fun _ => by kernel_rfl
  have i4 : ∀ w : World, (Instr.index 147 (.agg #[.string ⟨#[108, 116]⟩, .string ⟨#[103, 116]⟩, .string ⟨#[97, 109, 112]⟩, .string ⟨#[113, 117, 111, 116]⟩, .string ⟨#[97, 112, 111, 115]⟩]) (.int .i64 4)).run Tryz.prog w = .ok (.string ⟨#[97, 112, 111, 115]⟩) w := fun _ => by kernel_rfl
  go_enter Tryz.func102, Tryz.ntmps102
  go_wp2
  go_loop [6] (fun i => ∃ (k : Nat), i = .int .i64 (k : Int) ∧ k ≤ 5) (fun i => 5 - (Go.RowKit.intOf i).toNat)
  case atStart => exact ⟨0, rfl, Nat.zero_le _⟩
  case round =>
    obtain ⟨k, rfl, hk⟩ := hrel
    have hk : k = 0 ∨ k = 1 ∨ k = 2 ∨ k = 3 ∨ k = 4 ∨ k = 5 := by omega
    rcases hk with rfl | rfl | rfl | rfl | rfl | rfl
    · go_wp2
      go_round
      case rel => exact ⟨1, rfl, by omega⟩
      case measure => simp [Go.RowKit.intOf]
    · go_wp2
      go_round
      case rel => exact ⟨2, rfl, by omega⟩
      case measure => simp [Go.RowKit.intOf]
    · go_wp2
      go_round
      case rel => exact ⟨3, rfl, by omega⟩
      case measure => simp [Go.RowKit.intOf]
    · go_wp2
      go_round
      case rel => exact ⟨4, rfl, by omega⟩
      case measure => simp [Go.RowKit.intOf]
    · go_wp2
      go_round
      case rel => exact ⟨5, rfl, by omega⟩
      case measure => simp [Go.RowKit.intOf]
    · go_wp2
      go_ret
      exact ⟨rfl, rfl⟩
theorem rNamed_some (b : ByteArray) (r : Int) (h : fiveX b = some r) (w : World) : Calls Tryz.prog 102 #[.string b] w fun e w' => e = .returned (.int .i32 r) ∧ w = w' := by
  rcases five_cases h with ⟨rfl, rfl⟩ | ⟨rfl, rfl⟩ | ⟨rfl, rfl⟩ | ⟨rfl, rfl⟩ | ⟨rfl, rfl⟩
  · have i0 : ∀ w : World, (Instr.index 147 (.agg #[.string ⟨#[108, 116]⟩, .string ⟨#[103, 116]⟩, .string ⟨#[97, 109, 112]⟩, .string ⟨#[113, 117, 111, 116]⟩, .string ⟨#[97, 112, 111, 115]⟩]) (.int .i64 0)).run Tryz.prog w = .ok (.string ⟨#[108, 116]⟩) w := fun _ => by kernel_rfl
    have i1 : ∀ w : World, (Instr.index 147 (.agg #[.string ⟨#[108, 116]⟩, .string ⟨#[103, 116]⟩, .string ⟨#[97, 109, 112]⟩, .string ⟨#[113, 117, 111, 116]⟩, .string ⟨#[97, 112, 111, 115]⟩]) (.int .i64 1)).run Tryz.prog w = .ok (.string ⟨#[103, 116]⟩) w := fun _ => by kernel_rfl
    have i2 : ∀ w : World, (Instr.index 147 (.agg #[.string ⟨#[108, 116]⟩, .string ⟨#[103, 116]⟩, .string ⟨#[97, 109, 112]⟩, .string ⟨#[113, 117, 111, 116]⟩, .string ⟨#[97, 112, 111, 115]⟩]) (.int .i64 2)).run Tryz.prog w = .ok (.string ⟨#[97, 109, 112]⟩) w := fun _ => by kernel_rfl
    have i3 : ∀ w : World, (Instr.index 147 (.agg #[.string ⟨#[108, 116]⟩, .string ⟨#[103, 116]⟩, .string ⟨#[97, 109, 112]⟩, .string ⟨#[113, 117, 111, 116]⟩, .string ⟨#[97, 112, 111, 115]⟩]) (.int .i64 3)).run Tryz.prog w = .ok (.string ⟨#[113, 117, 111, 116]⟩) w := fun _ => by kernel_rfl
    have i4 : ∀ w : World, (Instr.index 147 (.agg #[.string ⟨#[108, 116]⟩, .string ⟨#[103, 116]⟩, .string ⟨#[97, 109, 112]⟩, .string ⟨#[113, 117, 111, 116]⟩, .string ⟨#[97, 112, 111, 115]⟩]) (.int .i64 4)).run Tryz.prog w = .ok (.string ⟨#[97, 112, 111, 115]⟩) w := fun _ => by kernel_rfl
    go_enter Tryz.func102, Tryz.ntmps102
    go_wp2
    go_loop [6] (fun i => ∃ (k : Nat), i = .int .i64 (k : Int) ∧ k ≤ 0) (fun i => 5 - (Go.RowKit.intOf i).toNat)
    case atStart => exact ⟨0, rfl, Nat.zero_le _⟩
    case round =>
      obtain ⟨k, rfl, hk⟩ := hrel
      obtain rfl : k = 0 := by omega
      · go_wp2
        go_ret
        exact ⟨ret_int (by kernel_rfl), rfl⟩
  · have i0 : ∀ w : World, (Instr.index 147 (.agg #[.string ⟨#[108, 116]⟩, .string ⟨#[103, 116]⟩, .string ⟨#[97, 109, 112]⟩, .string ⟨#[113, 117, 111, 116]⟩, .string ⟨#[97, 112, 111, 115]⟩]) (.int .i64 0)).run Tryz.prog w = .ok (.string ⟨#[108, 116]⟩) w := fun _ => by kernel_rfl
    have i1 : ∀ w : World, (Instr.index 147 (.agg #[.string ⟨#[108, 116]⟩, .string ⟨#[103, 116]⟩, .string ⟨#[97, 109, 112]⟩, .string ⟨#[113, 117, 111, 116]⟩, .string ⟨#[97, 112, 111, 115]⟩]) (.int .i64 1)).run Tryz.prog w = .ok (.string ⟨#[103, 116]⟩) w := fun _ => by kernel_rfl
    have i2 : ∀ w : World, (Instr.index 147 (.agg #[.string ⟨#[108, 116]⟩, .string ⟨#[103, 116]⟩, .string ⟨#[97, 109, 112]⟩, .string ⟨#[113, 117, 111, 116]⟩, .string ⟨#[97, 112, 111, 115]⟩]) (.int .i64 2)).run Tryz.prog w = .ok (.string ⟨#[97, 109, 112]⟩) w := fun _ => by kernel_rfl
    have i3 : ∀ w : World, (Instr.index 147 (.agg #[.string ⟨#[108, 116]⟩, .string ⟨#[103, 116]⟩, .string ⟨#[97, 109, 112]⟩, .string ⟨#[113, 117, 111, 116]⟩, .string ⟨#[97, 112, 111, 115]⟩]) (.int .i64 3)).run Tryz.prog w = .ok (.string ⟨#[113, 117, 111, 116]⟩) w := fun _ => by kernel_rfl
    have i4 : ∀ w : World, (Instr.index 147 (.agg #[.string ⟨#[108, 116]⟩, .string ⟨#[103, 116]⟩, .string ⟨#[97, 109, 112]⟩, .string ⟨#[113, 117, 111, 116]⟩, .string ⟨#[97, 112, 111, 115]⟩]) (.int .i64 4)).run Tryz.prog w = .ok (.string ⟨#[97, 112, 111, 115]⟩) w := fun _ => by kernel_rfl
    go_enter Tryz.func102, Tryz.ntmps102
    go_wp2
    go_loop [6] (fun i => ∃ (k : Nat), i = .int .i64 (k : Int) ∧ k ≤ 1) (fun i => 5 - (Go.RowKit.intOf i).toNat)
    case atStart => exact ⟨0, rfl, Nat.zero_le _⟩
    case round =>
      obtain ⟨k, rfl, hk⟩ := hrel
      have hk : k = 0 ∨ k = 1 := by omega
      rcases hk with rfl | rfl
      · go_wp2
        go_round
        case rel => exact ⟨1, rfl, by omega⟩
        case measure => simp [Go.RowKit.intOf]
      · go_wp2
        go_ret
        exact ⟨ret_int (by kernel_rfl), rfl⟩
  · have i0 : ∀ w : World, (Instr.index 147 (.agg #[.string ⟨#[108, 116]⟩, .string ⟨#[103, 116]⟩, .string ⟨#[97, 109, 112]⟩, .string ⟨#[113, 117, 111, 116]⟩, .string ⟨#[97, 112, 111, 115]⟩]) (.int .i64 0)).run Tryz.prog w = .ok (.string ⟨#[108, 116]⟩) w := fun _ => by kernel_rfl
    have i1 : ∀ w : World, (Instr.index 147 (.agg #[.string ⟨#[108, 116]⟩, .string ⟨#[103, 116]⟩, .string ⟨#[97, 109, 112]⟩, .string ⟨#[113, 117, 111, 116]⟩, .string ⟨#[97, 112, 111, 115]⟩]) (.int .i64 1)).run Tryz.prog w = .ok (.string ⟨#[103, 116]⟩) w := fun _ => by kernel_rfl
    have i2 : ∀ w : World, (Instr.index 147 (.agg #[.string ⟨#[108, 116]⟩, .string ⟨#[103, 116]⟩, .string ⟨#[97, 109, 112]⟩, .string ⟨#[113, 117, 111, 116]⟩, .string ⟨#[97, 112, 111, 115]⟩]) (.int .i64 2)).run Tryz.prog w = .ok (.string ⟨#[97, 109, 112]⟩) w := fun _ => by kernel_rfl
    have i3 : ∀ w : World, (Instr.index 147 (.agg #[.string ⟨#[108, 116]⟩, .string ⟨#[103, 116]⟩, .string ⟨#[97, 109, 112]⟩, .string ⟨#[113, 117, 111, 116]⟩, .string ⟨#[97, 112, 111, 115]⟩]) (.int .i64 3)).run Tryz.prog w = .ok (.string ⟨#[113, 117, 111, 116]⟩) w := fun _ => by kernel_rfl
    have i4 : ∀ w : World, (Instr.index 147 (.agg #[.string ⟨#[108, 116]⟩, .string ⟨#[103, 116]⟩, .string ⟨#[97, 109, 112]⟩, .string ⟨#[113, 117, 111, 116]⟩, .string ⟨#[97, 112, 111, 115]⟩]) (.int .i64 4)).run Tryz.prog w = .ok (.string ⟨#[97, 112, 111, 115]⟩) w := fun _ => by kernel_rfl
    go_enter Tryz.func102, Tryz.ntmps102
    go_wp2
    go_loop [6] (fun i => ∃ (k : Nat), i = .int .i64 (k : Int) ∧ k ≤ 2) (fun i => 5 - (Go.RowKit.intOf i).toNat)
    case atStart => exact ⟨0, rfl, Nat.zero_le _⟩
    case round =>
      obtain ⟨k, rfl, hk⟩ := hrel
      have hk : k = 0 ∨ k = 1 ∨ k = 2 := by omega
      rcases hk with rfl | rfl | rfl
      · go_wp2
        go_round
        case rel => exact ⟨1, rfl, by omega⟩
        case measure => simp [Go.RowKit.intOf]
      · go_wp2
        go_round
        case rel => exact ⟨2, rfl, by omega⟩
        case measure => simp [Go.RowKit.intOf]
      · go_wp2
        go_ret
        exact ⟨ret_int (by kernel_rfl), rfl⟩
  · have i0 : ∀ w : World, (Instr.index 147 (.agg #[.string ⟨#[108, 116]⟩, .string ⟨#[103, 116]⟩, .string ⟨#[97, 109, 112]⟩, .string ⟨#[113, 117, 111, 116]⟩, .string ⟨#[97, 112, 111, 115]⟩]) (.int .i64 0)).run Tryz.prog w = .ok (.string ⟨#[108, 116]⟩) w := fun _ => by kernel_rfl
    have i1 : ∀ w : World, (Instr.index 147 (.agg #[.string ⟨#[108, 116]⟩, .string ⟨#[103, 116]⟩, .string ⟨#[97, 109, 112]⟩, .string ⟨#[113, 117, 111, 116]⟩, .string ⟨#[97, 112, 111, 115]⟩]) (.int .i64 1)).run Tryz.prog w = .ok (.string ⟨#[103, 116]⟩) w := fun _ => by kernel_rfl
    have i2 : ∀ w : World, (Instr.index 147 (.agg #[.string ⟨#[108, 116]⟩, .string ⟨#[103, 116]⟩, .string ⟨#[97, 109, 112]⟩, .string ⟨#[113, 117, 111, 116]⟩, .string ⟨#[97, 112, 111, 115]⟩]) (.int .i64 2)).run Tryz.prog w = .ok (.string ⟨#[97, 109, 112]⟩) w := fun _ => by kernel_rfl
    have i3 : ∀ w : World, (Instr.index 147 (.agg #[.string ⟨#[108, 116]⟩, .string ⟨#[103, 116]⟩, .string ⟨#[97, 109, 112]⟩, .string ⟨#[113, 117, 111, 116]⟩, .string ⟨#[97, 112, 111, 115]⟩]) (.int .i64 3)).run Tryz.prog w = .ok (.string ⟨#[113, 117, 111, 116]⟩) w := fun _ => by kernel_rfl
    have i4 : ∀ w : World, (Instr.index 147 (.agg #[.string ⟨#[108, 116]⟩, .string ⟨#[103, 116]⟩, .string ⟨#[97, 109, 112]⟩, .string ⟨#[113, 117, 111, 116]⟩, .string ⟨#[97, 112, 111, 115]⟩]) (.int .i64 4)).run Tryz.prog w = .ok (.string ⟨#[97, 112, 111, 115]⟩) w := fun _ => by kernel_rfl
    go_enter Tryz.func102, Tryz.ntmps102
    go_wp2
    go_loop [6] (fun i => ∃ (k : Nat), i = .int .i64 (k : Int) ∧ k ≤ 3) (fun i => 5 - (Go.RowKit.intOf i).toNat)
    case atStart => exact ⟨0, rfl, Nat.zero_le _⟩
    case round =>
      obtain ⟨k, rfl, hk⟩ := hrel
      have hk : k = 0 ∨ k = 1 ∨ k = 2 ∨ k = 3 := by omega
      rcases hk with rfl | rfl | rfl | rfl
      · go_wp2
        go_round
        case rel => exact ⟨1, rfl, by omega⟩
        case measure => simp [Go.RowKit.intOf]
      · go_wp2
        go_round
        case rel => exact ⟨2, rfl, by omega⟩
        case measure => simp [Go.RowKit.intOf]
      · go_wp2
        go_round
        case rel => exact ⟨3, rfl, by omega⟩
        case measure => simp [Go.RowKit.intOf]
      · go_wp2
        go_ret
        exact ⟨ret_int (by kernel_rfl), rfl⟩
  · have i0 : ∀ w : World, (Instr.index 147 (.agg #[.string ⟨#[108, 116]⟩, .string ⟨#[103, 116]⟩, .string ⟨#[97, 109, 112]⟩, .string ⟨#[113, 117, 111, 116]⟩, .string ⟨#[97, 112, 111, 115]⟩]) (.int .i64 0)).run Tryz.prog w = .ok (.string ⟨#[108, 116]⟩) w := fun _ => by kernel_rfl
    have i1 : ∀ w : World, (Instr.index 147 (.agg #[.string ⟨#[108, 116]⟩, .string ⟨#[103, 116]⟩, .string ⟨#[97, 109, 112]⟩, .string ⟨#[113, 117, 111, 116]⟩, .string ⟨#[97, 112, 111, 115]⟩]) (.int .i64 1)).run Tryz.prog w = .ok (.string ⟨#[103, 116]⟩) w := fun _ => by kernel_rfl
    have i2 : ∀ w : World, (Instr.index 147 (.agg #[.string ⟨#[108, 116]⟩, .string ⟨#[103, 116]⟩, .string ⟨#[97, 109, 112]⟩, .string ⟨#[113, 117, 111, 116]⟩, .string ⟨#[97, 112, 111, 115]⟩]) (.int .i64 2)).run Tryz.prog w = .ok (.string ⟨#[97, 109, 112]⟩) w := fun _ => by kernel_rfl
    have i3 : ∀ w : World, (Instr.index 147 (.agg #[.string ⟨#[108, 116]⟩, .string ⟨#[103, 116]⟩, .string ⟨#[97, 109, 112]⟩, .string ⟨#[113, 117, 111, 116]⟩, .string ⟨#[97, 112, 111, 115]⟩]) (.int .i64 3)).run Tryz.prog w = .ok (.string ⟨#[113, 117, 111, 116]⟩) w := fun _ => by kernel_rfl
    have i4 : ∀ w : World, (Instr.index 147 (.agg #[.string ⟨#[108, 116]⟩, .string ⟨#[103, 116]⟩, .string ⟨#[97, 109, 112]⟩, .string ⟨#[113, 117, 111, 116]⟩, .string ⟨#[97, 112, 111, 115]⟩]) (.int .i64 4)).run Tryz.prog w = .ok (.string ⟨#[97, 112, 111, 115]⟩) w := fun _ => by kernel_rfl
    go_enter Tryz.func102, Tryz.ntmps102
    go_wp2
    go_loop [6] (fun i => ∃ (k : Nat), i = .int .i64 (k : Int) ∧ k ≤ 4) (fun i => 5 - (Go.RowKit.intOf i).toNat)
    case atStart => exact ⟨0, rfl, Nat.zero_le _⟩
    case round =>
      obtain ⟨k, rfl, hk⟩ := hrel
      have hk : k = 0 ∨ k = 1 ∨ k = 2 ∨ k = 3 ∨ k = 4 := by omega
      rcases hk with rfl | rfl | rfl | rfl | rfl
      · go_wp2
        go_round
        case rel => exact ⟨1, rfl, by omega⟩
        case measure => simp [Go.RowKit.intOf]
      · go_wp2
        go_round
        case rel => exact ⟨2, rfl, by omega⟩
        case measure => simp [Go.RowKit.intOf]
      · go_wp2
        go_round
        case rel => exact ⟨3, rfl, by omega⟩
        case measure => simp [Go.RowKit.intOf]
      · go_wp2
        go_round
        case rel => exact ⟨4, rfl, by omega⟩
        case measure => simp [Go.RowKit.intOf]
      · go_wp2
        go_ret
        exact ⟨ret_int (by kernel_rfl), rfl⟩
section
variable (d : ByteArray) (w : World)
theorem rNumber_hex (hx : bt d 0 = 120) (hz : d.size ≤ 4000000000) : Calls Tryz.prog 103 #[.string d] w fun e w' => e = .returned (.int .i32 ((numX d).getD 0)) ∧ Below w.heap.size w w' := by
  have hpr := pre_one d 120 (by decide) w
  rw [show (bt d 0 == ((120 : UInt8).toNat : Int)) = true by rw [hx]; rfl] at hpr
  have hd1 : 1 ≤ d.size := by
    by_cases h : 1 ≤ d.size
    · exact h
    · rw [bt_end d (by omega)] at hx; omega
  have hd1I : (1 : Int) ≤ d.size := by omega
  have hdz : (d.extract 1 d.size).size = d.size - 1 := by rw [ByteArray.size_extract]; omega
  go_enter Tryz.func103, Tryz.ntmps103
  go_wp2_with fail
  refine hpr.mono ?_
  rintro e w' ⟨rfl, rfl⟩
  go_upto_region 3 with fail
  go_quiet (fail)
  have hB1 : Below w.heap.size w (w.drewN nq) := bdN0 (Below.refl _ _) nq
  have HB1 := Lib.hid hB1
  clear hB1 hpr hdz
  obtain ⟨n, hn⟩ : ∃ n, (d.extract 1 d.size).size = n := ⟨_, rfl⟩
  have hnum : numX d = numB (d.extract 1 d.size) 16 6 := by unfold numX; rw [if_pos hx]
  by_cases h0 : n = 0
  · have hr : numX d = none := by rw [hnum]; unfold numB; rw [if_pos (.inl (by rw [hn]; exact h0))]
    have HR := Lib.hid hr
    have hnil : ((d.extract 1 d.size).toList == ([] : List UInt8)) = true := tl_yes (tl_size (by rw [hn]; exact h0))
    clear hr hnum h0
    go_wp2_with fail
    go_ret
    rw [HR.out]
    exact ⟨rfl, HB1.out⟩
  · have hnil : ((d.extract 1 d.size).toList == ([] : List UInt8)) = false := bytes_ne (by rw [hn]; exact h0)
    by_cases hm : 6 < n
    · have hr : numX d = none := by rw [hnum]; unfold numB; rw [if_pos (.inr (by rw [hn]; exact hm))]
      have HR := Lib.hid hr
      have hmI : (6 : Int) < ((d.extract 1 d.size).size : Int) := by rw [hn]; omega
      clear hr hnum h0 hm
      go_wp2_with fail
      go_ret
      rw [HR.out]
      exact ⟨rfl, HB1.out⟩
    · have hmI : ¬ (6 : Int) < ((d.extract 1 d.size).size : Int) := by rw [hn]; omega
      have hnb : numB (d.extract 1 d.size) 16 6 = match numF (d.extract 1 d.size) 16 n 0 0 with | none => none | some x => if rChar x = true then some x else none := by
        unfold numB
        rw [if_neg (by rw [hn]; omega), hn]
        generalize numF (d.extract 1 d.size) 16 n 0 0 = z
        cases z <;> rfl
      have HNB := Lib.hid (hnum.trans hnb)
      have HN := Lib.hid hn
      have hm' : n ≤ 6 := by omega
      have HM := Lib.hid hm'
      clear hnum hnb h0 hm hm'
      go_wp2_with fail
      go_loopg [5, 6] (n + 1) (fun f s5 s6 wx => ∃ (i : Nat) (x : Int), s5 = .int .i64 x ∧ s6 = .int .i64 (i : Int) ∧ f + i = n + 1 ∧ i ≤ n ∧ numF (d.extract 1 d.size) 16 n 0 0 = numF (d.extract 1 d.size) 16 (n - i) i x ∧ 0 ≤ x ∧ x < ((16 ^ i : Nat) : Int) ∧ Below w.heap.size w wx)
      case atStart => exact ⟨0, 0, rfl, rfl, rfl, Nat.zero_le _, rfl, Int.le_refl _, by decide, HB1.out⟩
      case round =>
        obtain ⟨i, x, rfl, rfl, hg, hi, hp, hx0, hx1, hBr⟩ := hrel
        have HG := Lib.hid hg; have HP := Lib.hid hp; have HBR := Lib.hid hBr; have HX1 := Lib.hid hx1; have HX0 := Lib.hid hx0
        have hi0 : (0 : Int) ≤ i := by omega
        have hnm := HM.out
        by_cases hlt : i < n
        · have hiI : (i : Int) < n := by omega
          have hiD : (i : Int) < ((d.extract 1 d.size).size : Int) := by rw [HN.out]; omega
          have f1 : IntKind.i64.wrap ((i : Int) + 1) = ((i + 1 : Nat) : Int) := by rw [IntWalk.i64_in _ (by omega)]; omega
          have HLT := Lib.hid hlt
          have hgb := get_bt (d.extract 1 d.size)
          have hcl := bt_nonneg (d.extract 1 d.size) i
          have hcu := bt_le (d.extract 1 d.size) i
          have hpw : 16 ^ (i + 1) = 16 ^ i * 16 := Nat.pow_succ _ _
          have hpm : 16 ^ (i + 1) ≤ 16 ^ 6 := Nat.pow_le_pow_right (by decide) (by omega)
          have hpe : 16 ^ 6 = 16777216 := by decide
          have hok : ∀ dv : Int, digV (bt (d.extract 1 d.size) i) = dv → 0 ≤ dv → dv < 16 → numF (d.extract 1 d.size) 16 n 0 0 = numF (d.extract 1 d.size) 16 (n - (i + 1)) (i + 1) (x * 16 + dv) ∧ x * 16 + dv < ((16 ^ (i + 1) : Nat) : Int) ∧ 0 ≤ x * 16 + dv ∧ IntKind.i64.wrap (x * 16) = x * 16 ∧ IntKind.i64.wrap (x * 16 + dv) = x * 16 + dv := fun dv h1 h2 h3 => by
            refine ⟨?_, ?_, ?_, ?_, ?_⟩
            · rw [hp, show n - i = (n - (i + 1)) + 1 by omega, numF_some (by rw [h1]; exact h3), h1]
            · rw [hpw]; omega
            · omega
            · rw [IntWalk.i64_in _ (by omega)]
            · rw [IntWalk.i64_in _ (by omega)]
          have hno : ¬ digV (bt (d.extract 1 d.size) i) < 16 → numX d = none := fun h1 => by
            rw [HNB.out, hp, show n - i = (n - (i + 1)) + 1 by omega, numF_none h1]
          have HOK := Lib.hid hok; have HNO := Lib.hid hno
          clear hp hg hx0 hx1 hBr hlt hpw hpm hpe hok hno
          by_cases a1 : 48 ≤ bt (d.extract 1 d.size) i
          · by_cases a2 : bt (d.extract 1 d.size) i ≤ 57
            · have hdg : digV (bt (d.extract 1 d.size) i) = bt (d.extract 1 d.size) i - 48 := by unfold digV; rw [if_pos (by omega)]
              have g1 : IntKind.u8.wrap (bt (d.extract 1 d.size) i - 48) = bt (d.extract 1 d.size) i - 48 := by rw [IntKind.wrap_u8]; omega
              have g2 : IntKind.i64.wrap (bt (d.extract 1 d.size) i - 48) = bt (d.extract 1 d.size) i - 48 := IntWalk.i64_in _ (by omega)
              have hdb : ¬ 16 ≤ bt (d.extract 1 d.size) i - 48 := by omega
              obtain ⟨k1, k2, k3, k4, k5⟩ := HOK.out (bt (d.extract 1 d.size) i - 48) hdg (by omega) (by omega)
              have K1 := Lib.hid k1; have K2 := Lib.hid k2; have K3 := Lib.hid k3
              clear k1 k2 k3 hdg
              go_wp2_with fail
              go_roundg (n - i)
              case rel => exact ⟨i + 1, x * 16 + (bt (d.extract 1 d.size) i - 48), by simp, by simp, by have := HG.out; have := HLT.out; omega, HLT.out, K1.out, K3.out, K2.out, HBR.out⟩
              case measure => have := HG.out; have := HLT.out; omega
            · by_cases a3 : 97 ≤ bt (d.extract 1 d.size) i
              · by_cases a4 : bt (d.extract 1 d.size) i ≤ 102
                · have hdg : digV (bt (d.extract 1 d.size) i) = bt (d.extract 1 d.size) i - 97 + 10 := by unfold digV; rw [if_neg (by omega), if_pos (by omega)]; omega
                  have g1 : IntKind.u8.wrap (bt (d.extract 1 d.size) i - 97) = bt (d.extract 1 d.size) i - 97 := by rw [IntKind.wrap_u8]; omega
                  have g2 : IntKind.i64.wrap (bt (d.extract 1 d.size) i - 97) = bt (d.extract 1 d.size) i - 97 := IntWalk.i64_in _ (by omega)
                  have g3 : IntKind.i64.wrap (bt (d.extract 1 d.size) i - 97 + 10) = bt (d.extract 1 d.size) i - 97 + 10 := IntWalk.i64_in _ (by omega)
                  have hdb : ¬ 16 ≤ bt (d.extract 1 d.size) i - 97 + 10 := by omega
                  obtain ⟨k1, k2, k3, k4, k5⟩ := HOK.out (bt (d.extract 1 d.size) i - 97 + 10) hdg (by omega) (by omega)
                  have K1 := Lib.hid k1; have K2 := Lib.hid k2; have K3 := Lib.hid k3
                  clear k1 k2 k3 hdg
                  go_wp2_with fail
                  go_roundg (n - i)
                  case rel => exact ⟨i + 1, x * 16 + (bt (d.extract 1 d.size) i - 97 + 10), by simp, by simp, by have := HG.out; have := HLT.out; omega, HLT.out, K1.out, K3.out, K2.out, HBR.out⟩
                  case measure => have := HG.out; have := HLT.out; omega
                · have a5 : 65 ≤ bt (d.extract 1 d.size) i := by omega
                  have a6 : ¬ bt (d.extract 1 d.size) i ≤ 70 := by omega
                  have hdg : digV (bt (d.extract 1 d.size) i) = 99 := by unfold digV; rw [if_neg (by omega), if_neg (by omega), if_neg (by omega)]
                  have hr : numX d = none := HNO.out (by rw [hdg]; omega)
                  have HR := Lib.hid hr
                  clear hr hdg
                  go_wp2_with fail
                  go_ret
                  rw [HR.out]
                  exact ⟨rfl, HBR.out⟩
              · by_cases a5 : 65 ≤ bt (d.extract 1 d.size) i
                · by_cases a6 : bt (d.extract 1 d.size) i ≤ 70
                  · have hdg : digV (bt (d.extract 1 d.size) i) = bt (d.extract 1 d.size) i - 65 + 10 := by unfold digV; rw [if_neg (by omega), if_neg (by omega), if_pos (by omega)]; omega
                    have g1 : IntKind.u8.wrap (bt (d.extract 1 d.size) i - 65) = bt (d.extract 1 d.size) i - 65 := by rw [IntKind.wrap_u8]; omega
                    have g2 : IntKind.i64.wrap (bt (d.extract 1 d.size) i - 65) = bt (d.extract 1 d.size) i - 65 := IntWalk.i64_in _ (by omega)
                    have g3 : IntKind.i64.wrap (bt (d.extract 1 d.size) i - 65 + 10) = bt (d.extract 1 d.size) i - 65 + 10 := IntWalk.i64_in _ (by omega)
                    have hdb : ¬ 16 ≤ bt (d.extract 1 d.size) i - 65 + 10 := by omega
                    obtain ⟨k1, k2, k3, k4, k5⟩ := HOK.out (bt (d.extract 1 d.size) i - 65 + 10) hdg (by omega) (by omega)
                    have K1 := Lib.hid k1; have K2 := Lib.hid k2; have K3 := Lib.hid k3
                    clear k1 k2 k3 hdg
                    go_wp2_with fail
                    go_roundg (n - i)
                    case rel => exact ⟨i + 1, x * 16 + (bt (d.extract 1 d.size) i - 65 + 10), by simp, by simp, by have := HG.out; have := HLT.out; omega, HLT.out, K1.out, K3.out, K2.out, HBR.out⟩
                    case measure => have := HG.out; have := HLT.out; omega
                  · have hdg : digV (bt (d.extract 1 d.size) i) = 99 := by unfold digV; rw [if_neg (by omega), if_neg (by omega), if_neg (by omega)]
                    have hr : numX d = none := HNO.out (by rw [hdg]; omega)
                    have HR := Lib.hid hr
                    clear hr hdg
                    go_wp2_with fail
                    go_ret
                    rw [HR.out]
                    exact ⟨rfl, HBR.out⟩
                · have hdg : digV (bt (d.extract 1 d.size) i) = 99 := by unfold digV; rw [if_neg (by omega), if_neg (by omega), if_neg (by omega)]
                  have hr : numX d = none := HNO.out (by rw [hdg]; omega)
                  have HR := Lib.hid hr
                  clear hr hdg
                  go_wp2_with fail
                  go_ret
                  rw [HR.out]
                  exact ⟨rfl, HBR.out⟩
          · have a3 : ¬ 97 ≤ bt (d.extract 1 d.size) i := by omega
            have a5 : ¬ 65 ≤ bt (d.extract 1 d.size) i := by omega
            have hdg : digV (bt (d.extract 1 d.size) i) = 99 := by unfold digV; rw [if_neg (by omega), if_neg (by omega), if_neg (by omega)]
            have hr : numX d = none := HNO.out (by rw [hdg]; omega)
            have HR := Lib.hid hr
            clear hr hdg
            go_wp2_with fail
            go_ret
            rw [HR.out]
            exact ⟨rfl, HBR.out⟩
        · have hiI : ¬ (i : Int) < n := by omega
          have hiD : ¬ (i : Int) < ((d.extract 1 d.size).size : Int) := by rw [HN.out]; omega
          have hres : numF (d.extract 1 d.size) 16 n 0 0 = some x := by
            rw [hp, show n - i = 0 by omega]
            rfl
          have hin : i = n := by omega
          have hpm : 16 ^ i ≤ 16 ^ 6 := Nat.pow_le_pow_right (by decide) (by omega)
          have hpe : 16 ^ 6 = 16777216 := by decide
          have w2 : IntKind.i32.wrap x = x := by rw [IntKind.wrap_i32]; omega
          have hch := rChar_any x wr
          cases hrc : rChar x with
          | true =>
            rw [hrc] at hch
            have hr : numX d = some x := by rw [HNB.out, hres]; simp only; rw [if_pos hrc]
            have HR := Lib.hid hr
            clear hres hr hp hg hlt hrc hpm hpe hin
            go_wp2_with fail
            refine hch.mono ?_
            rintro e w' ⟨rfl, rfl⟩
            go_wp2_with fail
            go_ret
            rw [HR.out]
            exact ⟨rfl, HBR.out⟩
          | false =>
            rw [hrc] at hch
            have hr : numX d = none := by rw [HNB.out, hres]; simp only; rw [if_neg (by rw [hrc]; simp)]
            have HR := Lib.hid hr
            clear hres hr hp hg hlt hrc hpm hpe hin
            go_wp2_with fail
            refine hch.mono ?_
            rintro e w' ⟨rfl, rfl⟩
            go_wp2_with fail
            go_ret
            rw [HR.out]
            exact ⟨rfl, HBR.out⟩
theorem rNumber_dec (hx : ¬ bt d 0 = 120) (hz : d.size ≤ 4000000000) : Calls Tryz.prog 103 #[.string d] w fun e w' => e = .returned (.int .i32 ((numX d).getD 0)) ∧ Below w.heap.size w w' := by
  have hpr := pre_one d 120 (by decide) w
  rw [show (bt d 0 == ((120 : UInt8).toNat : Int)) = false by simpa using hx] at hpr
  have HB1 := Lib.hid (Below.refl w.heap.size w)
  go_enter Tryz.func103, Tryz.ntmps103
  go_wp2_with fail
  refine hpr.mono ?_
  rintro e w' ⟨rfl, rfl⟩
  clear hpr
  obtain ⟨n, hn⟩ : ∃ n, (d).size = n := ⟨_, rfl⟩
  have hnum : numX d = numB (d) 10 7 := by unfold numX; rw [if_neg hx]
  by_cases h0 : n = 0
  · have hr : numX d = none := by rw [hnum]; unfold numB; rw [if_pos (.inl (by rw [hn]; exact h0))]
    have HR := Lib.hid hr
    have hnil : ((d).toList == ([] : List UInt8)) = true := tl_yes (tl_size (by rw [hn]; exact h0))
    clear hr hnum h0
    go_wp2_with fail
    go_ret
    rw [HR.out]
    exact ⟨rfl, HB1.out⟩
  · have hnil : ((d).toList == ([] : List UInt8)) = false := bytes_ne (by rw [hn]; exact h0)
    by_cases hm : 7 < n
    · have hr : numX d = none := by rw [hnum]; unfold numB; rw [if_pos (.inr (by rw [hn]; exact hm))]
      have HR := Lib.hid hr
      have hmI : (7 : Int) < ((d).size : Int) := by rw [hn]; omega
      clear hr hnum h0 hm
      go_wp2_with fail
      go_ret
      rw [HR.out]
      exact ⟨rfl, HB1.out⟩
    · have hmI : ¬ (7 : Int) < ((d).size : Int) := by rw [hn]; omega
      have hnb : numB (d) 10 7 = match numF (d) 10 n 0 0 with | none => none | some x => if rChar x = true then some x else none := by
        unfold numB
        rw [if_neg (by rw [hn]; omega), hn]
        generalize numF (d) 10 n 0 0 = z
        cases z <;> rfl
      have HNB := Lib.hid (hnum.trans hnb)
      have HN := Lib.hid hn
      have hm' : n ≤ 7 := by omega
      have HM := Lib.hid hm'
      clear hnum hnb h0 hm hm'
      go_wp2_with fail
      go_loopg [5, 6] (n + 1) (fun f s5 s6 wx => ∃ (i : Nat) (x : Int), s5 = .int .i64 x ∧ s6 = .int .i64 (i : Int) ∧ f + i = n + 1 ∧ i ≤ n ∧ numF (d) 10 n 0 0 = numF (d) 10 (n - i) i x ∧ 0 ≤ x ∧ x < ((10 ^ i : Nat) : Int) ∧ Below w.heap.size w wx)
      case atStart => exact ⟨0, 0, rfl, rfl, rfl, Nat.zero_le _, rfl, Int.le_refl _, by decide, HB1.out⟩
      case round =>
        obtain ⟨i, x, rfl, rfl, hg, hi, hp, hx0, hx1, hBr⟩ := hrel
        have HG := Lib.hid hg; have HP := Lib.hid hp; have HBR := Lib.hid hBr; have HX1 := Lib.hid hx1; have HX0 := Lib.hid hx0
        have hi0 : (0 : Int) ≤ i := by omega
        have hnm := HM.out
        by_cases hlt : i < n
        · have hiI : (i : Int) < n := by omega
          have hiD : (i : Int) < ((d).size : Int) := by rw [HN.out]; omega
          have f1 : IntKind.i64.wrap ((i : Int) + 1) = ((i + 1 : Nat) : Int) := by rw [IntWalk.i64_in _ (by omega)]; omega
          have HLT := Lib.hid hlt
          have hgb := get_bt (d)
          have hcl := bt_nonneg (d) i
          have hcu := bt_le (d) i
          have hpw : 10 ^ (i + 1) = 10 ^ i * 10 := Nat.pow_succ _ _
          have hpm : 10 ^ (i + 1) ≤ 10 ^ 7 := Nat.pow_le_pow_right (by decide) (by omega)
          have hpe : 10 ^ 7 = 10000000 := by decide
          have hok : ∀ dv : Int, digV (bt (d) i) = dv → 0 ≤ dv → dv < 10 → numF (d) 10 n 0 0 = numF (d) 10 (n - (i + 1)) (i + 1) (x * 10 + dv) ∧ x * 10 + dv < ((10 ^ (i + 1) : Nat) : Int) ∧ 0 ≤ x * 10 + dv ∧ IntKind.i64.wrap (x * 10) = x * 10 ∧ IntKind.i64.wrap (x * 10 + dv) = x * 10 + dv := fun dv h1 h2 h3 => by
            refine ⟨?_, ?_, ?_, ?_, ?_⟩
            · rw [hp, show n - i = (n - (i + 1)) + 1 by omega, numF_some (by rw [h1]; exact h3), h1]
            · rw [hpw]; omega
            · omega
            · rw [IntWalk.i64_in _ (by omega)]
            · rw [IntWalk.i64_in _ (by omega)]
          have hno : ¬ digV (bt (d) i) < 10 → numX d = none := fun h1 => by
            rw [HNB.out, hp, show n - i = (n - (i + 1)) + 1 by omega, numF_none h1]
          have HOK := Lib.hid hok; have HNO := Lib.hid hno
          clear hp hg hx0 hx1 hBr hlt hpw hpm hpe hok hno
          by_cases a1 : 48 ≤ bt (d) i
          · by_cases a2 : bt (d) i ≤ 57
            · have hdg : digV (bt (d) i) = bt (d) i - 48 := by unfold digV; rw [if_pos (by omega)]
              have g1 : IntKind.u8.wrap (bt (d) i - 48) = bt (d) i - 48 := by rw [IntKind.wrap_u8]; omega
              have g2 : IntKind.i64.wrap (bt (d) i - 48) = bt (d) i - 48 := IntWalk.i64_in _ (by omega)
              have hdb : ¬ 10 ≤ bt (d) i - 48 := by omega
              obtain ⟨k1, k2, k3, k4, k5⟩ := HOK.out (bt (d) i - 48) hdg (by omega) (by omega)
              have K1 := Lib.hid k1; have K2 := Lib.hid k2; have K3 := Lib.hid k3
              clear k1 k2 k3 hdg
              go_wp2_with fail
              go_roundg (n - i)
              case rel => exact ⟨i + 1, x * 10 + (bt (d) i - 48), by simp, by simp, by have := HG.out; have := HLT.out; omega, HLT.out, K1.out, K3.out, K2.out, HBR.out⟩
              case measure => have := HG.out; have := HLT.out; omega
            · by_cases a3 : 97 ≤ bt (d) i
              · by_cases a4 : bt (d) i ≤ 102
                · have hdg : digV (bt (d) i) = bt (d) i - 97 + 10 := by unfold digV; rw [if_neg (by omega), if_pos (by omega)]; omega
                  have g1 : IntKind.u8.wrap (bt (d) i - 97) = bt (d) i - 97 := by rw [IntKind.wrap_u8]; omega
                  have g2 : IntKind.i64.wrap (bt (d) i - 97) = bt (d) i - 97 := IntWalk.i64_in _ (by omega)
                  have g3 : IntKind.i64.wrap (bt (d) i - 97 + 10) = bt (d) i - 97 + 10 := IntWalk.i64_in _ (by omega)
                  have hdb : 10 ≤ bt (d) i - 97 + 10 := by omega
                  have hr : numX d = none := HNO.out (by rw [hdg]; omega)
                  have HR := Lib.hid hr
                  clear hr hdg
                  go_wp2_with fail
                  go_ret
                  rw [HR.out]
                  exact ⟨rfl, HBR.out⟩
                · have a5 : 65 ≤ bt (d) i := by omega
                  have a6 : ¬ bt (d) i ≤ 70 := by omega
                  have hdg : digV (bt (d) i) = 99 := by unfold digV; rw [if_neg (by omega), if_neg (by omega), if_neg (by omega)]
                  have hr : numX d = none := HNO.out (by rw [hdg]; omega)
                  have HR := Lib.hid hr
                  clear hr hdg
                  go_wp2_with fail
                  go_ret
                  rw [HR.out]
                  exact ⟨rfl, HBR.out⟩
              · by_cases a5 : 65 ≤ bt (d) i
                · by_cases a6 : bt (d) i ≤ 70
                  · have hdg : digV (bt (d) i) = bt (d) i - 65 + 10 := by unfold digV; rw [if_neg (by omega), if_neg (by omega), if_pos (by omega)]; omega
                    have g1 : IntKind.u8.wrap (bt (d) i - 65) = bt (d) i - 65 := by rw [IntKind.wrap_u8]; omega
                    have g2 : IntKind.i64.wrap (bt (d) i - 65) = bt (d) i - 65 := IntWalk.i64_in _ (by omega)
                    have g3 : IntKind.i64.wrap (bt (d) i - 65 + 10) = bt (d) i - 65 + 10 := IntWalk.i64_in _ (by omega)
                    have hdb : 10 ≤ bt (d) i - 65 + 10 := by omega
                    have hr : numX d = none := HNO.out (by rw [hdg]; omega)
                    have HR := Lib.hid hr
                    clear hr hdg
                    go_wp2_with fail
                    go_ret
                    rw [HR.out]
                    exact ⟨rfl, HBR.out⟩
                  · have hdg : digV (bt (d) i) = 99 := by unfold digV; rw [if_neg (by omega), if_neg (by omega), if_neg (by omega)]
                    have hr : numX d = none := HNO.out (by rw [hdg]; omega)
                    have HR := Lib.hid hr
                    clear hr hdg
                    go_wp2_with fail
                    go_ret
                    rw [HR.out]
                    exact ⟨rfl, HBR.out⟩
                · have hdg : digV (bt (d) i) = 99 := by unfold digV; rw [if_neg (by omega), if_neg (by omega), if_neg (by omega)]
                  have hr : numX d = none := HNO.out (by rw [hdg]; omega)
                  have HR := Lib.hid hr
                  clear hr hdg
                  go_wp2_with fail
                  go_ret
                  rw [HR.out]
                  exact ⟨rfl, HBR.out⟩
          · have a3 : ¬ 97 ≤ bt (d) i := by omega
            have a5 : ¬ 65 ≤ bt (d) i := by omega
            have hdg : digV (bt (d) i) = 99 := by unfold digV; rw [if_neg (by omega), if_neg (by omega), if_neg (by omega)]
            have hr : numX d = none := HNO.out (by rw [hdg]; omega)
            have HR := Lib.hid hr
            clear hr hdg
            go_wp2_with fail
            go_ret
            rw [HR.out]
            exact ⟨rfl, HBR.out⟩
        · have hiI : ¬ (i : Int) < n := by omega
          have hiD : ¬ (i : Int) < ((d).size : Int) := by rw [HN.out]; omega
          have hres : numF (d) 10 n 0 0 = some x := by
            rw [hp, show n - i = 0 by omega]
            rfl
          have hin : i = n := by omega
          have hpm : 10 ^ i ≤ 10 ^ 7 := Nat.pow_le_pow_right (by decide) (by omega)
          have hpe : 10 ^ 7 = 10000000 := by decide
          have w2 : IntKind.i32.wrap x = x := by rw [IntKind.wrap_i32]; omega
          have hch := rChar_any x wr
          cases hrc : rChar x with
          | true =>
            rw [hrc] at hch
            have hr : numX d = some x := by rw [HNB.out, hres]; simp only; rw [if_pos hrc]
            have HR := Lib.hid hr
            clear hres hr hp hg hlt hrc hpm hpe hin
            go_wp2_with fail
            refine hch.mono ?_
            rintro e w' ⟨rfl, rfl⟩
            go_wp2_with fail
            go_ret
            rw [HR.out]
            exact ⟨rfl, HBR.out⟩
          | false =>
            rw [hrc] at hch
            have hr : numX d = none := by rw [HNB.out, hres]; simp only; rw [if_neg (by rw [hrc]; simp)]
            have HR := Lib.hid hr
            clear hres hr hp hg hlt hrc hpm hpe hin
            go_wp2_with fail
            refine hch.mono ?_
            rintro e w' ⟨rfl, rfl⟩
            go_wp2_with fail
            go_ret
            rw [HR.out]
            exact ⟨rfl, HBR.out⟩
end
end
end Go.Proofs.YtnmpbphnfiiafaaGreatDoor
