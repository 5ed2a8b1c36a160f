/-
  The reference: texts XmQc, XmQd.
-/
import Derived.Test.YtnmpbphnfiiafaaGreatDoorXmZb
namespace Go.Proofs.YtnmpbphnfiiafaaGreatDoor
section
open Go.RowKit Go.PlainAid

theorem pre_one (d : ByteArray) (c : UInt8) (hc : c ≠ 0) (w : World) : Calls Tryz.prog 40 #[.string d, .string ⟨#[c]⟩] w fun e w' => e = .returned (.bool (bt d 0 == (c.toNat : Int))) ∧ w = w' := by
  have h := prefix_at d 0 [c] (by simpa using hc) w
  rw [show d.extract 0 d.size = d by simp] at h
  refine h.mono fun e w' ⟨h1, h2⟩ => ⟨?_, h2⟩
  rw [h1]
  simp [wdAt]
theorem lt_no {X : ByteArray} {l : List UInt8} (h : X ≠ ⟨l.toArray⟩) : (l == X.toList) = false := by
  have := tl_no h
  rw [Bool.eq_false_iff] at this ⊢
  intro hc
  exact this (by simp at hc ⊢; exact hc.symm)
section
set_option maxRecDepth 100000
set_option maxHeartbeats 4000000
theorem rNamed_none (b : ByteArray) (h : fiveX b = none) (w : World) : Calls Tryz.prog 102 #[.string b] w fun e w' => e = .returned (.int .i32 0) ∧ w = w' := by
  obtain ⟨n1, n2, n3, n4, n5⟩ := five_none h
  have e1 := tl_no n1; have e2 := tl_no n2; have e3 := tl_no n3; have e4 := tl_no n4; have e5 := tl_no n5
  have d1 := lt_no n1; have d2 := lt_no n2; have d3 := lt_no n3; have d4 := lt_no n4; have d5 := lt_no n5
  clear n1 n2 n3 n4 n5 h
  have i0 : ∀ w : World, (Instr.index 147 (.agg #[.string ⟨#[108, 116]⟩, .string ⟨#[103, 116]⟩, .string ⟨#[97, 109, 112]⟩, .string ⟨#[113, 117, 111, 116]⟩, .string ⟨#[97, 112, 111, 115]⟩]) (.int .i64 0)).run Tryz.prog w = .ok (.string ⟨#[108, 116]⟩) w := fun _ => by kernel_rfl
  have i1 : ∀ w : World, (Instr.index 147 (.agg #[.string ⟨#[108, 116]⟩, .string ⟨#[103, 116]⟩, .string ⟨#[97, 109, 112]⟩, .string ⟨#[113, 117, 111, 116]⟩, .string ⟨#[97, 112, 111, 115]⟩]) (.int .i64 1)).run Tryz.prog w = .ok (.string ⟨#[103, 116]⟩) w := fun _ => by kernel_rfl
  have i2 : ∀ w : World, (Instr.index 147 (.agg #[.string ⟨#[108, 116]⟩, .string ⟨#[103, 116]⟩, .string ⟨#[97, 109, 112]⟩, .string ⟨#[113, 117, 111, 116]⟩, .string ⟨#[97, 112, 111, 115]⟩]) (.int .i64 2)).run Tryz.prog w = .ok (.string ⟨#[97, 109, 112]⟩) w := fun _ => by kernel_rfl
  have i3 : ∀ w : World, (Instr.index 147 (.agg #[.string ⟨#[108, 116]⟩, .string ⟨#[103, 116]⟩, .string ⟨#[97, 109, 112]⟩, .string ⟨#[113, 117, 111, 116]⟩, .string ⟨#[97, 112, 111, 115]⟩]) (.int .i64 3)).run Tryz.prog w = .ok (.string ⟨#[113, 117, 111, 116]⟩) w := fun _ => by kernel_rfl
  have i4 : ∀ w : World, (Instr.index 147 (.agg #[.string ⟨#[108, 116]⟩, .string ⟨#[103, 116]⟩, .string ⟨#[97, 109, 112]⟩, .string ⟨#[113, 117, 111, 116]⟩, .string ⟨#[97, 112, 111, 115]⟩]) (.int .i64 4)).run Tryz.prog w = .ok (.string ⟨#[97, 112, 111, 115]⟩) w := fun _ => by kernel_rfl
  go_enter Tryz.func102, Tryz.ntmps102
  go_wp2
  go_loop [6] (fun i => ∃ (k : Nat), i = .int .i64 (k : Int) ∧ k ≤ 5) (fun i => 5 - (Go.RowKit.intOf i).toNat)
  case atStart => exact ⟨0, rfl, Nat.zero_le _⟩
  case round =>
    obtain ⟨k, rfl, hk⟩ := hrel
    have hk : k = 0 ∨ k = 1 ∨ k = 2 ∨ k = 3 ∨ k = 4 ∨ k = 5 := by omega
    rcases hk with rfl | rfl | rfl | rfl | rfl | rfl
    · go_wp2
      go_round
      case rel => exact ⟨1, rfl, by omega⟩
      case measure => simp [Go.RowKit.intOf]
    · go_wp2
      go_round
      case rel => exact ⟨2, rfl, by omega⟩
      case measure => simp [Go.RowKit.intOf]
    · go_wp2
      go_round
      case rel => exact ⟨3, rfl, by omega⟩
      case measure => simp [Go.RowKit.intOf]
    · go_wp2
      go_round
      case rel => exact ⟨4, rfl, by omega⟩
      case measure => simp [Go.RowKit.intOf]
    · go_wp2
      go_round
      case rel => exact ⟨5, rfl, by omega⟩
      case measure => simp [Go.RowKit.intOf]
    · go_wp2
      go_ret
      exact ⟨rfl, rfl⟩
theorem rNamed_some (b : ByteArray) (r : Int) (h : fiveX b = some r) (w : World) : Calls Tryz.prog 102 #[.string b] w fun e w' => e = .returned (.int .i32 r) ∧ w = w' := by
  rcases five_cases h with ⟨rfl, rfl⟩ | ⟨rfl, rfl⟩ | ⟨rfl, rfl⟩ | ⟨rfl, rfl⟩ | ⟨rfl, rfl⟩
  · have i0 : ∀ w : World, (Instr.index 147 (.agg #[.string ⟨#[108, 116]⟩, .string ⟨#[103, 116]⟩, .string ⟨#[97, 109, 112]⟩, .string ⟨#[113, 117, 111, 116]⟩, .string ⟨#[97, 112, 111, 115]⟩]) (.int .i64 0)).run Tryz.prog w = .ok (.string ⟨#[108, 116]⟩) w := fun _ => by kernel_rfl
    have i1 : ∀ w : World, (Instr.index 147 (.agg #[.string ⟨#[108, 116]⟩, .string ⟨#[103, 116]⟩, .string ⟨#[97, 109, 112]⟩, .string ⟨#[113, 117, 111, 116]⟩, .string ⟨#[97, 112, 111, 115]⟩]) (.int .i64 1)).run Tryz.prog w = .ok (.string ⟨#[103, 116]⟩) w := fun _ => by kernel_rfl
    have i2 : ∀ w : World, (Instr.index 147 (.agg #[.string ⟨#[108, 116]⟩, .string ⟨#[103, 116]⟩, .string ⟨#[97, 109, 112]⟩, .string ⟨#[113, 117, 111, 116]⟩, .string ⟨#[97, 112, 111, 115]⟩]) (.int .i64 2)).run Tryz.prog w = .ok (.string ⟨#[97, 109, 112]⟩) w := fun _ => by kernel_rfl
    have i3 : ∀ w : World, (Instr.index 147 (.agg #[.string ⟨#[108, 116]⟩, .string ⟨#[103, 116]⟩, .string ⟨#[97, 109, 112]⟩, .string ⟨#[113, 117, 111, 116]⟩, .string ⟨#[97, 112, 111, 115]⟩]) (.int .i64 3)).run Tryz.prog w = .ok (.string ⟨#[113, 117, 111, 116]⟩) w := fun _ => by kernel_rfl
    have i4 : ∀ w : World, (Instr.index 147 (.agg #[.string ⟨#[108, 116]⟩, .string ⟨#[103, 116]⟩, .string ⟨#[97, 109, 112]⟩, .string ⟨#[113, 117, 111, 116]⟩, .string ⟨#[97, 112, 111, 115]⟩]) (.int .i64 4)).run Tryz.prog w = .ok (.string ⟨#[97, 112, 111, 115]⟩) w := fun _ => by kernel_rfl
    go_enter Tryz.func102, Tryz.ntmps102
    go_wp2
    go_loop [6] (fun i => ∃ (k : Nat), i = .int .i64 (k : Int) ∧ k ≤ 0) (fun i => 5 - (Go.RowKit.intOf i).toNat)
    case atStart => exact ⟨0, rfl, Nat.zero_le _⟩
    case round =>
      obtain ⟨k, rfl, hk⟩ := hrel
      obtain rfl : k = 0 := by omega
      · go_wp2
        go_ret
        exact ⟨ret_int (by kernel_rfl), rfl⟩
  · have i0 : ∀ w : World, (Instr.index 147 (.agg #[.string ⟨#[108, 116]⟩, .string ⟨#[103, 116]⟩, .string ⟨#[97, 109, 112]⟩, .string ⟨#[113, 117, 111, 116]⟩, .string ⟨#[97, 112, 111, 115]⟩]) (.int .i64 0)).run Tryz.prog w = .ok (.string ⟨#[108, 116]⟩) w := fun _ => by kernel_rfl
    have i1 : ∀ w : World, (Instr.index 147 (.agg #[.string ⟨#[108, 116]⟩, .string ⟨#[103, 116]⟩, .string ⟨#[97, 109, 112]⟩, .string ⟨#[113, 117, 111, 116]⟩, .string ⟨#[97, 112, 111, 115]⟩]) (.int .i64 1)).run Tryz.prog w = .ok (.string ⟨#[103, 116]⟩) w := fun _ => by kernel_rfl
    have i2 : ∀ w : World, (Instr.index 147 (.agg #[.string ⟨#[108, 116]⟩, .string ⟨#[103, 116]⟩, .string ⟨#[97, 109, 112]⟩, .string ⟨#[113, 117, 111, 116]⟩, .string ⟨#[97, 112, 111, 115]⟩]) (.int .i64 2)).run Tryz.prog w = .ok (.string ⟨#[97, 109, 112]⟩) w := fun _ => by kernel_rfl
    have i3 : ∀ w : World, (Instr.index 147 (.agg #[.string ⟨#[108, 116]⟩, .string ⟨#[103, 116]⟩, .string ⟨#[97, 109, 112]⟩, .string ⟨#[113, 117, 111, 116]⟩, .string ⟨#[97, 112, 111, 115]⟩]) (.int .i64 3)).run Tryz.prog w = .ok (.string ⟨#[113, 117, 111, 116]⟩) w := fun _ => by kernel_rfl
    have i4 : ∀ w : World, (Instr.index 147 (.agg #[.string ⟨#[108, 116]⟩, .string ⟨#[103, 116]⟩, .string ⟨#[97, 109, 112]⟩, .string ⟨#[113, 117, 111, 116]⟩, .string ⟨#[97, 112, 111, 115]⟩]) (.int .i64 4)).run Tryz.prog w = .ok (.string ⟨#[97, 112, 111, 115]⟩) w := fun _ => by kernel_rfl
    go_enter Tryz.func102, Tryz.ntmps102
    go_wp2
    go_loop [6] (fun i => ∃ (k : Nat), i = .int .i64 (k : Int) ∧ k ≤ 1) (fun i => 5 - (Go.RowKit.intOf i).toNat)
    case atStart => exact ⟨0, rfl, Nat.zero_le _⟩
    case round =>
      obtain ⟨k, rfl, hk⟩ := hrel
      have hk : k = 0 ∨ k = 1 := by omega
      rcases hk with rfl | rfl
      · go_wp2
        go_round
        case rel => exact ⟨1, rfl, by omega⟩
        case measure => simp [Go.RowKit.intOf]
      · go_wp2
        go_ret
        exact ⟨ret_int (by kernel_rfl), rfl⟩
  · have i0 : ∀ w : World, (Instr.index 147 (.agg #[.string ⟨#[108, 116]⟩, .string ⟨#[103, 116]⟩, .string ⟨#[97, 109, 112]⟩, .string ⟨#[113, 117, 111, 116]⟩, .string ⟨#[97, 112, 111, 115]⟩]) (.int .i64 0)).run Tryz.prog w = .ok (.string ⟨#[108, 116]⟩) w := fun _ => by kernel_rfl
    have i1 : ∀ w : World, (Instr.index 147 (.agg #[.string ⟨#[108, 116]⟩, .string ⟨#[103, 116]⟩, .string ⟨#[97, 109, 112]⟩, .string ⟨#[113, 117, 111, 116]⟩, .string ⟨#[97, 112, 111, 115]⟩]) (.int .i64 1)).run Tryz.prog w = .ok (.string ⟨#[103, 116]⟩) w := fun _ => by kernel_rfl
    have i2 : ∀ w : World, (Instr.index 147 (.agg #[.string ⟨#[108, 116]⟩, .string ⟨#[103, 116]⟩, .string ⟨#[97, 109, 112]⟩, .string ⟨#[113, 117, 111, 116]⟩, .string ⟨#[97, 112, 111, 115]⟩]) (.int .i64 2)).run Tryz.prog w = .ok (.string ⟨#[97, 109, 112]⟩) w := fun _ => by kernel_rfl
    have i3 : ∀ w : World, (Instr.index 147 (.agg #[.string ⟨#[108, 116]⟩, .string ⟨#[103, 116]⟩, .string ⟨#[97, 109, 112]⟩, .string ⟨#[113, 117, 111, 116]⟩, .string ⟨#[97, 112, 111, 115]⟩]) (.int .i64 3)).run Tryz.prog w = .ok (.string ⟨#[113, 117, 111, 116]⟩) w := fun _ => by kernel_rfl
    have i4 : ∀ w : World, (Instr.index 147 (.agg #[.string ⟨#[108, 116]⟩, .string ⟨#[103, 116]⟩, .string ⟨#[97, 109, 112]⟩, .string ⟨#[113, 117, 111, 116]⟩, .string ⟨#[97, 112, 111, 115]⟩]) (.int .i64 4)).run Tryz.prog w = .ok (.string ⟨#[97, 112, 111, 115]⟩) w := fun _ => by kernel_rfl
    go_enter Tryz.func102, Tryz.ntmps102
    go_wp2
    go_loop [6] (fun i => ∃ (k : Nat), i = .int .i64 (k : Int) ∧ k ≤ 2) (fun i => 5 - (Go.RowKit.intOf i).toNat)
    case atStart => exact ⟨0, rfl, Nat.zero_le _⟩
    case round =>
      obtain ⟨k, rfl, hk⟩ := hrel
      have hk : k = 0 ∨ k = 1 ∨ k = 2 := by omega
      rcases hk with rfl | rfl | rfl
      · go_wp2
        go_round
        case rel => exact ⟨1, rfl, by omega⟩
        case measure => simp [Go.RowKit.intOf]
      · go_wp2
        go_round
        case rel => exact ⟨2, rfl, by omega⟩
        case measure => simp [Go.RowKit.intOf]
      · go_wp2
        go_ret
        exact ⟨ret_int (by kernel_rfl), rfl⟩
  · have i0 : ∀ w : World, (Instr.index 147 (.agg #[.string ⟨#[108, 116]⟩, .string ⟨#[103, 116]⟩, .string ⟨#[97, 109, 112]⟩, .string ⟨#[113, 117, 111, 116]⟩, .string ⟨#[97, 112, 111, 115]⟩]) (.int .i64 0)).run Tryz.prog w = .ok (.string ⟨#[108, 116]⟩) w := fun _ => by kernel_rfl
    have i1 : ∀ w : World, (Instr.index 147 (.agg #[.string ⟨#[108, 116]⟩, .string ⟨#[103, 116]⟩, .string ⟨#[97, 109, 112]⟩, .string ⟨#[113, 117, 111, 116]⟩, .string ⟨#[97, 112, 111, 115]⟩]) (.int .i64 1)).run Tryz.prog w = .ok (.string ⟨#[103, 116]⟩) w := fun _ => by kernel_rfl
    have i2 : ∀ w : World, (Instr.index 147 (.agg #[.string ⟨#[108, 116]⟩, .string ⟨#[103, 116]⟩, .string ⟨#[97, 109, 112]⟩, .string ⟨#[113, 117, 111, 116]⟩, .string ⟨#[97, 112, 111, 115]⟩]) (.int .i64 2)).run Tryz.prog w = .ok (.string ⟨#[97, 109, 112]⟩) w := fun _ => by kernel_rfl
    have i3 : ∀ w : World, (Instr.index 147 (.agg #[.string ⟨#[108, 116]⟩, .string ⟨#[103, 116]⟩, .string ⟨#[97, 109, 112]⟩, .string ⟨#[113, 117, 111, 116]⟩, .string ⟨#[97, 112, 111, 115]⟩]) (.int .i64 3)).run Tryz.prog w = .ok (.string ⟨#[113, 117, 111, 116]⟩) w := fun _ => by kernel_rfl
    have i4 : ∀ w : World, (Instr.index 147 (.agg #[.string ⟨#[108, 116]⟩, .string ⟨#[103, 116]⟩, .string ⟨#[97, 109, 112]⟩, .string ⟨#[113, 117, 111, 116]⟩, .string ⟨#[97, 112, 111, 115]⟩]) (.int .i64 4)).run Tryz.prog w = .ok (.string ⟨#[97, 112, 111, 115]⟩) w := fun _ => by kernel_rfl
    go_enter Tryz.func102, Tryz.ntmps102
    go_wp2
    go_loop [6] (fun i => ∃ (k : Nat), i = .int .i64 (k : Int) ∧ k ≤ 3) (fun i => 5 - (Go.RowKit.intOf i).toNat)
    case atStart => exact ⟨0, rfl, Nat.zero_le _⟩
    case round =>
      obtain ⟨k, rfl, hk⟩ := hrel
      have hk : k = 0 ∨ k = 1 ∨ k = 2 ∨ k = 3 := by omega
      rcases hk with rfl | rfl | rfl | rfl
      · go_wp2
        go_round
        case rel => exact ⟨1, rfl, by omega⟩
        case measure => simp [Go.RowKit.intOf]
      · go_wp2
        go_round
        case rel => exact ⟨2, rfl, by omega⟩
        case measure => simp [Go.RowKit.intOf]
      · go_wp2
        go_round
        case rel => exact ⟨3, rfl, by omega⟩
        case measure => simp [Go.RowKit.intOf]
      · go_wp2
        go_ret
        exact ⟨ret_int (by kernel_rfl), rfl⟩
  · have i0 : ∀ w : World, (Instr.index 147 (.agg #[.string ⟨#[108, 116]⟩, .string ⟨#[103, 116]⟩, .string ⟨#[97, 109, 112]⟩, .string ⟨#[113, 117, 111, 116]⟩, .string ⟨#[97, 112, 111, 115]⟩]) (.int .i64 0)).run Tryz.prog w = .ok (.string ⟨#[108, 116]⟩) w := fun _ => by kernel_rfl
    have i1 : ∀ w : World, (Instr.index 147 (.agg #[.string ⟨#[108, 116]⟩, .string ⟨#[103, 116]⟩, .string ⟨#[97, 109, 112]⟩, .string ⟨#[113, 117, 111, 116]⟩, .string ⟨#[97, 112, 111, 115]⟩]) (.int .i64 1)).run Tryz.prog w = .ok (.string ⟨#[103, 116]⟩) w := fun _ => by kernel_rfl
    have i2 : ∀ w : World, (Instr.index 147 (.agg #[.string ⟨#[108, 116]⟩, .string ⟨#[103, 116]⟩, .string ⟨#[97, 109, 112]⟩, .string ⟨#[113, 117, 111, 116]⟩, .string ⟨#[97, 112, 111, 115]⟩]) (.int .i64 2)).run Tryz.prog w = .ok (.string ⟨#[97, 109, 112]⟩) w := fun _ => by kernel_rfl
    have i3 : ∀ w : World, (Instr.index 147 (.agg #[.string ⟨#[108, 116]⟩, .string ⟨#[103, 116]⟩, .string ⟨#[97, 109, 112]⟩, .string ⟨#[113, 117, 111, 116]⟩, .string ⟨#[97, 112, 111, 115]⟩]) (.int .i64 3)).run Tryz.prog w = .ok (.string ⟨#[113, 117, 111, 116]⟩) w := fun _ => by kernel_rfl
    have i4 : ∀ w : World, (Instr.index 147 (.agg #[.string ⟨#[108, 116]⟩, .string ⟨#[103, 116]⟩, .string ⟨#[97, 109, 112]⟩, .string ⟨#[113, 117, 111, 116]⟩, .string ⟨#[97, 112, 111, 115]⟩]) (.int .i64 4)).run Tryz.prog w = .ok (.string ⟨#[97, 112, 111, 115]⟩) w := fun _ => by kernel_rfl
    go_enter Tryz.func102, Tryz.ntmps102
    go_wp2
    go_loop [6] (fun i => ∃ (k : Nat), i = .int .i64 (k : Int) ∧ k ≤ 4) (fun i => 5 - (Go.RowKit.intOf i).toNat)
    case atStart => exact ⟨0, rfl, Nat.zero_le _⟩
    case round =>
      obtain ⟨k, rfl, hk⟩ := hrel
      have hk : k = 0 ∨ k = 1 ∨ k = 2 ∨ k = 3 ∨ k = 4 := by omega
      rcases hk with rfl | rfl | rfl | rfl | rfl
      · go_wp2
        go_round
        case rel => exact ⟨1, rfl, by omega⟩
        case measure => simp [Go.RowKit.intOf]
      · go_wp2
        go_round
        case rel => exact ⟨2, rfl, by omega⟩
        case measure => simp [Go.RowKit.intOf]
      · go_wp2
        go_round
        case rel => exact ⟨3, rfl, by omega⟩
        case measure => simp [Go.RowKit.intOf]
      · go_wp2
        go_round
        case rel => exact ⟨4, rfl, by omega⟩
        case measure => simp [Go.RowKit.intOf]
      · go_wp2
        go_ret
        exact ⟨ret_int (by kernel_rfl), rfl⟩
section
variable (d : ByteArray) (w : World)
theorem rNumber_hex (hx : bt d 0 = 120) (hz : d.size ≤ 4000000000) : Calls Tryz.prog 103 #[.string d] w fun e w' => e = .returned (.int .i32 ((numX d).getD 0)) ∧ Below w.heap.size w w' := by
  have hpr := pre_one d 120 (by decide) w
  rw [show (bt d 0 == ((120 : UInt8).toNat : Int)) = true by rw [hx]; rfl] at hpr
  have hd1 : 1 ≤ d.size := by
    by_cases h : 1 ≤ d.size
    · exact h
    · rw [bt_end d (by omega)] at hx; omega
  have hd1I : (1 : Int) ≤ d.size := by omega
  have hdz : (d.extract 1 d.size).size = d.size - 1 := by rw [ByteArray.size_extract]; omega
  go_enter Tryz.func103, Tryz.ntmps103
  go_wp2_with fail
  refine hpr.mono ?_
  rintro e w' ⟨rfl, rfl⟩
  go_upto_region 3 with fail
  go_quiet (fail)
  have hB1 : Below w.heap.size w (w.drewN nq) := bdN0 (Below.refl _ _) nq
  have HB1 := Lib.hid hB1
  clear hB1 hpr hdz
  obtain ⟨n, hn⟩ : ∃ n, (d.extract 1 d.size).size = n := ⟨_, rfl⟩
  have hnum : numX d = numB (d.extract 1 d.size) 16 6 := by unfold numX; rw [if_pos hx]
  by_cases h0 : n = 0
  · have hr : numX d = none := by rw [hnum]; unfold numB; rw [if_pos (.inl (by rw [hn]; exact h0))]
    have HR := Lib.hid hr
    have hnil : ((d.extract 1 d.size).toList == ([] : List UInt8)) = true := tl_yes (tl_size (by rw [hn]; exact h0))
    clear hr hnum h0
    go_wp2_with fail
    go_ret
    rw [HR.out]
    exact ⟨rfl, HB1.out⟩
  · have hnil : ((d.extract 1 d.size).toList == ([] : List UInt8)) = false := bytes_ne (by rw [hn]; exact h0)
    by_cases hm : 6 < n
    · have hr : numX d = none := by rw [hnum]; unfold numB; rw [if_pos (.inr (by rw [hn]; exact hm))]
      have HR := Lib.hid hr
      have hmI : (6 : Int) < ((d.extract 1 d.size).size : Int) := by rw [hn]; omega
      clear hr hnum h0 hm
      go_wp2_with fail
      go_ret
      rw [HR.out]
      exact ⟨rfl, HB1.out⟩
    · have hmI : ¬ (6 : Int) < ((d.extract 1 d.size).size : Int) := by rw [hn]; omega
      have hnb : numB (d.extract 1 d.size) 16 6 = match numF (d.extract 1 d.size) 16 n 0 0 with | none => none | some x => if rChar x = true then some x else none := by
        unfold numB
        rw [if_neg (by rw [hn]; omega), hn]
        generalize numF (d.extract 1 d.size) 16 n 0 0 = z
        cases z <;> rfl
      have HNB := Lib.hid (hnum.trans hnb)
      have HN := Lib.hid hn
      have hm' : n ≤ 6 := by omega
      have HM := Lib.hid hm'
      clear hnum hnb h0 hm hm'
      go_wp2_with fail
      go_loopg [5, 6] (n + 1) (fun f s5 s6 wx => ∃ (i : Nat) (x : Int), s5 = .int .i64 x ∧ s6 = .int .i64 (i : Int) ∧ f + i = n + 1 ∧ i ≤ n ∧ numF (d.extract 1 d.size) 16 n 0 0 = numF (d.extract 1 d.size) 16 (n - i) i x ∧ 0 ≤ x ∧ x < ((16 ^ i : Nat) : Int) ∧ Below w.heap.size w wx)
      case atStart => exact ⟨0, 0, rfl, rfl, rfl, Nat.zero_le _, rfl, Int.le_refl _, by decide, HB1.out⟩
      case round =>
        obtain ⟨i, x, rfl, rfl, hg, hi, hp, hx0, hx1, hBr⟩ := hrel
        have HG := Lib.hid hg; have HP := Lib.hid hp; have HBR := Lib.hid hBr; have HX1 := Lib.hid hx1; have HX0 := Lib.hid hx0
        have hi0 : (0 : Int) ≤ i := by omega
        have hnm := HM.out
        by_cases hlt : i < n
        · have hiI : (i : Int) < n := by omega
          have hiD : (i : Int) < ((d.extract 1 d.size).size : Int) := by rw [HN.out]; omega
          have f1 : IntKind.i64.wrap ((i : Int) + 1) = ((i + 1 : Nat) : Int) := by rw [IntWalk.i64_in _ (by omega)]; omega
          have HLT := Lib.hid hlt
          have hgb := get_bt (d.extract 1 d.size)
          have hcl := bt_nonneg (d.extract 1 d.size) i
          have hcu := bt_le (d.extract 1 d.size) i
          have hpw : 16 ^ (i + 1) = 16 ^ i * 16 := Nat.pow_succ _ _
          have hpm : 16 ^ (i + 1) ≤ 16 ^ 6 := Nat.pow_le_pow_right (by decide) (by omega)
          have hpe : 16 ^ 6 = 16777216 := by decide
          have hok : ∀ dv : Int, digV (bt (d.extract 1 d.size) i) = dv → 0 ≤ dv → dv < 16 → numF (d.extract 1 d.size) 16 n 0 0 = numF (d.extract 1 d.size) 16 (n - (i + 1)) (i + 1) (x * 16 + dv) ∧ x * 16 + dv < ((16 ^ (i + 1) : Nat) : Int) ∧ 0 ≤ x * 16 + dv ∧ IntKind.i64.wrap (x * 16) = x * 16 ∧ IntKind.i64.wrap (x * 16 + dv) = x * 16 + dv := fun dv h1 h2 h3 => by
            refine ⟨?_, ?_, ?_, ?_, ?_⟩
            · rw [hp, show n - i = (n - (i + 1)) + 1 by omega, numF_some (by rw [h1]; exact h3), h1]
            · rw [hpw]; omega
            · omega
            · rw [IntWalk.i64_in _ (by omega)]
            · rw [IntWalk.i64_in _ (by omega)]
          have hno : ¬ digV (bt (d.extract 1 d.size) i) < 16 → numX d = none := fun h1 => by
            rw [HNB.out, hp, show n - i = (n - (i + 1)) + 1 by omega, numF_none h1]
          have HOK := Lib.hid hok; have HNO := Lib.hid hno
          clear hp hg hx0 hx1 hBr hlt hpw hpm hpe hok hno
          by_cases a1 : 48 ≤ bt (d.extract 1 d.size) i
          · by_cases a2 : bt (d.extract 1 d.size) i ≤ 57
            · have hdg : digV (bt (d.extract 1 d.size) i) = bt (d.extract 1 d.size) i - 48 := by unfold digV; rw [if_pos (by omega)]
              have g1 : IntKind.u8.wrap (bt (d.extract 1 d.size) i - 48) = bt (d.extract 1 d.size) i - 48 := by rw [IntKind.wrap_u8]; omega
              have g2 : IntKind.i64.wrap (bt (d.extract 1 d.size) i - 48) = bt (d.extract 1 d.size) i - 48 := IntWalk.i64_in _ (by omega)
              have hdb : ¬ 16 ≤ bt (d.extract 1 d.size) i - 48 := by omega
              obtain ⟨k1, k2, k3, k4, k5⟩ := HOK.out (bt (d.extract 1 d.size) i - 48) hdg (by omega) (by omega)
              have K1 := Lib.hid k1; have K2 := Lib.hid k2; have K3 := Lib.hid k3
              clear k1 k2 k3 hdg
              go_wp2_with fail
              go_roundg (n - i)
              case rel => exact ⟨i + 1, x * 16 + (bt (d.extract 1 d.size) i - 48), by simp, by simp, by have := HG.out; have := HLT.out; omega, HLT.out, K1.out, K3.out, K2.out, HBR.out⟩
              case measure => have := HG.out; have := HLT.out; omega
            · by_cases a3 : 97 ≤ bt (d.extract 1 d.size) i
              · by_cases a4 : bt (d.extract 1 d.size) i ≤ 102
                · have hdg : digV (bt (d.extract 1 d.size) i) = bt (d.extract 1 d.size) i - 97 + 10 := by unfold digV; rw [if_neg (by omega), if_pos (by omega)]; omega
                  have g1 : IntKind.u8.wrap (bt (d.extract 1 d.size) i - 97) = bt (d.extract 1 d.size) i - 97 := by rw [IntKind.wrap_u8]; omega
                  have g2 : IntKind.i64.wrap (bt (d.extract 1 d.size) i - 97) = bt (d.extract 1 d.size) i - 97 := IntWalk.i64_in _ (by omega)
                  have g3 : IntKind.i64.wrap (bt (d.extract 1 d.size) i - 97 + 10) = bt (d.extract 1 d.size) i - 97 + 10 := IntWalk.i64_in _ (by omega)
                  have hdb : ¬ 16 ≤ bt (d.extract 1 d.size) i - 97 + 10 := by omega
                  obtain ⟨k1, k2, k3, k4, k5⟩ := HOK.out (bt (d.extract 1 d.size) i - 97 + 10) hdg (by omega) (by omega)
                  have K1 := Lib.hid k1; have K2 := Lib.hid k2; have K3 := Lib.hid k3
                  clear k1 k2 k3 hdg
                  go_wp2_with fail
                  go_roundg (n - i)
                  case rel => exact ⟨i + 1, x * 16 + (bt (d.extract 1 d.size) i - 97 + 10), by simp, by simp, by have := HG.out; have := HLT.out; omega, HLT.out, K1.out, K3.out, K2.out, HBR.out⟩
                  case measure => have := HG.out; have := HLT.out; omega
                · have a5 : 65 ≤ bt (d.extract 1 d.size) i := by omega
                  have a6 : ¬ bt (d.extract 1 d.size) i ≤ 70 := by omega
                  have hdg : digV (bt (d.extract 1 d.size) i) = 99 := by unfold digV; rw [if_neg (by omega), if_neg (by omega), if_neg (by omega)]
                  have hr : numX d = none := HNO.out (by rw [hdg]; omega)
                  have HR := Lib.hid hr
                  clear hr hdg
                  go_wp2_with fail
                  go_ret
                  rw [HR.out]
                  exact ⟨rfl, HBR.out⟩
              · by_cases a5 : 65 ≤ bt (d.extract 1 d.size) i
                · by_cases a6 : bt (d.extract 1 d.size) i ≤ 70
                  · have hdg : digV (bt (d.extract 1 d.size) i) = bt (d.extract 1 d.size) i - 65 + 10 := by unfold digV; rw [if_neg (by omega), if_neg (by omega), if_pos (by omega)]; omega
                    have g1 : IntKind.u8.wrap (bt (d.extract 1 d.size) i - 65) = bt (d.extract 1 d.size) i - 65 := by rw [IntKind.wrap_u8]; omega
                    have g2 : IntKind.i64.wrap (bt (d.extract 1 d.size) i - 65) = bt (d.extract 1 d.size) i - 65 := IntWalk.i64_in _ (by omega)
                    have g3 : IntKind.i64.wrap (bt (d.extract 1 d.size) i - 65 + 10) = bt (d.extract 1 d.size) i - 65 + 10 := IntWalk.i64_in _ (by omega)
                    have hdb : ¬ 16 ≤ bt (d.extract 1 d.size) i - 65 + 10 := by omega
                    obtain ⟨k1, k2, k3, k4, k5⟩ := HOK.out (bt (d.extract 1 d.size) i - 65 + 10) hdg (by omega) (by omega)
                    have K1 := Lib.hid k1; have K2 := Lib.hid k2; have K3 := Lib.hid k3
                    clear k1 k2 k3 hdg
                    go_wp2_with fail
                    go_roundg (n - i)
                    case rel => exact ⟨i + 1, x * 16 + (bt (d.extract 1 d.size) i - 65 + 10), by simp, by simp, by have := HG.out; have := HLT.out; omega, HLT.out, K1.out, K3.out, K2.out, HBR.out⟩
                    case measure => have := HG.out; have := HLT.out; omega
                  · have hdg : digV (bt (d.extract 1 d.size) i) = 99 := by unfold digV; rw [if_neg (by omega), if_neg (by omega), if_neg (by omega)]
                    have hr : numX d = none := HNO.out (by rw [hdg]; omega)
                    have HR := Lib.hid hr
                    clear hr hdg
                    go_wp2_with fail
                    go_ret
                    rw [HR.out]
                    exact ⟨rfl, HBR.out⟩
                · have hdg : digV (bt (d.extract 1 d.size) i) = 99 := by unfold digV; rw [if_neg (by omega), if_neg (by omega), if_neg (by omega)]
                  have hr : numX d = none := HNO.out (by rw [hdg]; omega)
                  have HR := Lib.hid hr
                  clear hr hdg
                  go_wp2_with fail
                  go_ret
                  rw [HR.out]
                  exact ⟨rfl, HBR.out⟩
          · have a3 : ¬ 97 ≤ bt (d.extract 1 d.size) i := by omega
            have a5 : ¬ 65 ≤ bt (d.extract 1 d.size) i := by omega
            have hdg : digV (bt (d.extract 1 d.size) i) = 99 := by unfold digV; rw [if_neg (by omega), if_neg (by omega), if_neg (by omega)]
            have hr : numX d = none := HNO.out (by rw [hdg]; omega)
            have HR := Lib.hid hr
            clear hr hdg
            go_wp2_with fail
            go_ret
            rw [HR.out]
            exact ⟨rfl, HBR.out⟩
        · have hiI : ¬ (i : Int) < n := by omega
          have hiD : ¬ (i : Int) < ((d.extract 1 d.size).size : Int) := by rw [HN.out]; omega
          have hres : numF (d.extract 1 d.size) 16 n 0 0 = some x := by
            rw [hp, show n - i = 0 by omega]
            rfl
          have hin : i = n := by omega
          have hpm : 16 ^ i ≤ 16 ^ 6 := Nat.pow_le_pow_right (by decide) (by omega)
          have hpe : 16 ^ 6 = 16777216 := by decide
          have w2 : IntKind.i32.wrap x = x := by rw [IntKind.wrap_i32]; omega
          have hch := rChar_any x wr
          cases hrc : rChar x with
          | true =>
            rw [hrc] at hch
            have hr : numX d = some x := by rw [HNB.out, hres]; simp only; rw [if_pos hrc]
            have HR := Lib.hid hr
            clear hres hr hp hg hlt hrc hpm hpe hin
            go_wp2_with fail
            refine hch.mono ?_
            rintro e w' ⟨rfl, rfl⟩
            go_wp2_with fail
            go_ret
            rw [HR.out]
            exact ⟨rfl, HBR.out⟩
          | false =>
            rw [hrc] at hch
            have hr : numX d = none := by rw [HNB.out, hres]; simp only; rw [if_neg (by rw [hrc]; simp)]
            have HR := Lib.hid hr
            clear hres hr hp hg hlt hrc hpm hpe hin
            go_wp2_with fail
            refine hch.mono ?_
            rintro e w' ⟨rfl, rfl⟩
            go_wp2_with fail
            go_ret
            rw [HR.out]
            exact ⟨rfl, HBR.out⟩
theorem rNumber_dec (hx : ¬ bt d 0 = 120) (hz : d.size ≤ 4000000000) : Calls Tryz.prog 103 #[.string d] w fun e w' => e = .returned (.int .i32 ((numX d).getD 0)) ∧ Below w.heap.size w w' := by
  have hpr := pre_one d 120 (by decide) w
  rw [show (bt d 0 == ((120 : UInt8).toNat : Int)) = false by simpa using hx] at hpr
  have HB1 := Lib.hid (Below.refl w.heap.size w)
  go_enter Tryz.func103, Tryz.ntmps103
  go_wp2_with fail
  refine hpr.mono ?_
  rintro e w' ⟨rfl, rfl⟩
  clear hpr
  obtain ⟨n, hn⟩ : ∃ n, (d).size = n := ⟨_, rfl⟩
  have hnum : numX d = numB (d) 10 7 := by unfold numX; rw [if_neg hx]
  by_cases h0 : n = 0
  · have hr : numX d = none := by rw [hnum]; unfold numB; rw [if_pos (.inl (by rw [hn]; exact h0))]
    have HR := Lib.hid hr
    have hnil : ((d).toList == ([] : List UInt8)) = true := tl_yes (tl_size (by rw [hn]; exact h0))
    clear hr hnum h0
    go_wp2_with fail
    go_ret
    rw [HR.out]
    exact ⟨rfl, HB1.out⟩
  · have hnil : ((d).toList == ([] : List UInt8)) = false := bytes_ne (by rw [hn]; exact h0)
    by_cases hm : 7 < n
    · have hr : numX d = none := by rw [hnum]; unfold numB; rw [if_pos (.inr (by rw [hn]; exact hm))]
      have HR := Lib.hid hr
      have hmI : (7 : Int) < ((d).size : Int) := by rw [hn]; omega
      clear hr hnum h0 hm
      go_wp2_with fail
      go_ret
      rw [HR.out]
      exact ⟨rfl, HB1.out⟩
    · have hmI : ¬ (7 : Int) < ((d).size : Int) := by rw [hn]; omega
      have hnb : numB (d) 10 7 = match numF (d) 10 n 0 0 with | none => none | some x => if rChar x = true then some x else none := by
        unfold numB
        rw [if_neg (by rw [hn]; omega), hn]
        generalize numF (d) 10 n 0 0 = z
        cases z <;> rfl
      have HNB := Lib.hid (hnum.trans hnb)
      have HN := Lib.hid hn
      have hm' : n ≤ 7 := by omega
      have HM := Lib.hid hm'
      clear hnum hnb h0 hm hm'
      go_wp2_with fail
      go_loopg [5, 6] (n + 1) (fun f s5 s6 wx => ∃ (i : Nat) (x : Int), s5 = .int .i64 x ∧ s6 = .int .i64 (i : Int) ∧ f + i = n + 1 ∧ i ≤ n ∧ numF (d) 10 n 0 0 = numF (d) 10 (n - i) i x ∧ 0 ≤ x ∧ x < ((10 ^ i : Nat) : Int) ∧ Below w.heap.size w wx)
      case atStart => exact ⟨0, 0, rfl, rfl, rfl, Nat.zero_le _, rfl, Int.le_refl _, by decide, HB1.out⟩
      case round =>
        obtain ⟨i, x, rfl, rfl, hg, hi, hp, hx0, hx1, hBr⟩ := hrel
        have HG := Lib.hid hg; have HP := Lib.hid hp; have HBR := Lib.hid hBr; have HX1 := Lib.hid hx1; have HX0 := Lib.hid hx0
        have hi0 : (0 : Int) ≤ i := by omega
        have hnm := HM.out
        by_cases hlt : i < n
        · have hiI : (i : Int) < n := by omega
          have hiD : (i : Int) < ((d).size : Int) := by rw [HN.out]; omega
          have f1 : IntKind.i64.wrap ((i : Int) + 1) = ((i + 1 : Nat) : Int) := by rw [IntWalk.i64_in _ (by omega)]; omega
          have HLT := Lib.hid hlt
          have hgb := get_bt (d)
          have hcl := bt_nonneg (d) i
          have hcu := bt_le (d) i
          have hpw : 10 ^ (i + 1) = 10 ^ i * 10 := Nat.pow_succ _ _
          have hpm : 10 ^ (i + 1) ≤ 10 ^ 7 := Nat.pow_le_pow_right (by decide) (by omega)
          have hpe : 10 ^ 7 = 10000000 := by decide
          have hok : ∀ dv : Int, digV (bt (d) i) = dv → 0 ≤ dv → dv < 10 → numF (d) 10 n 0 0 = numF (d) 10 (n - (i + 1)) (i + 1) (x * 10 + dv) ∧ x * 10 + dv < ((10 ^ (i + 1) : Nat) : Int) ∧ 0 ≤ x * 10 + dv ∧ IntKind.i64.wrap (x * 10) = x * 10 ∧ IntKind.i64.wrap (x * 10 + dv) = x * 10 + dv := fun dv h1 h2 h3 => by
            refine ⟨?_, ?_, ?_, ?_, ?_⟩
            · rw [hp, show n - i = (n - (i + 1)) + 1 by omega, numF_some (by rw [h1]; exact h3), h1]
            · rw [hpw]; omega
            · omega
            · rw [IntWalk.i64_in _ (by omega)]
            · rw [IntWalk.i64_in _ (by omega)]
          have hno : ¬ digV (bt (d) i) < 10 → numX d = none := fun h1 => by
            rw [HNB.out, hp, show n - i = (n - (i + 1)) + 1 by omega, numF_none h1]
          have HOK := Lib.hid hok; have HNO := Lib.hid hno
          clear hp hg hx0 hx1 hBr hlt hpw hpm hpe hok hno
          by_cases a1 : 48 ≤ bt (d) i
          · by_cases a2 : bt (d) i ≤ 57
            · have hdg : digV (bt (d) i) = bt (d) i - 48 := by unfold digV; rw [if_pos (by omega)]
              have g1 : IntKind.u8.wrap (bt (d) i - 48) = bt (d) i - 48 := by rw [IntKind.wrap_u8]; omega
              have g2 : IntKind.i64.wrap (bt (d) i - 48) = bt (d) i - 48 := IntWalk.i64_in _ (by omega)
              have hdb : ¬ 10 ≤ bt (d) i - 48 := by omega
              obtain ⟨k1, k2, k3, k4, k5⟩ := HOK.out (bt (d) i - 48) hdg (by omega) (by omega)
              have K1 := Lib.hid k1; have K2 := Lib.hid k2; have K3 := Lib.hid k3
              clear k1 k2 k3 hdg
              go_wp2_with fail
              go_roundg (n - i)
              case rel => exact ⟨i + 1, x * 10 + (bt (d) i - 48), by simp, by simp, by have := HG.out; have := HLT.out; omega, HLT.out, K1.out, K3.out, K2.out, HBR.out⟩
              case measure => have := HG.out; have := HLT.out; omega
            · by_cases a3 : 97 ≤ bt (d) i
              · by_cases a4 : bt (d) i ≤ 102
                · have hdg : digV (bt (d) i) = bt (d) i - 97 + 10 := by unfold digV; rw [if_neg (by omega), if_pos (by omega)]; omega
                  have g1 : IntKind.u8.wrap (bt (d) i - 97) = bt (d) i - 97 := by rw [IntKind.wrap_u8]; omega
                  have g2 : IntKind.i64.wrap (bt (d) i - 97) = bt (d) i - 97 := IntWalk.i64_in _ (by omega)
                  have g3 : IntKind.i64.wrap (bt (d) i - 97 + 10) = bt (d) i - 97 + 10 := IntWalk.i64_in _ (by omega)
                  have hdb : 10 ≤ bt (d) i - 97 + 10 := by omega
                  have hr : numX d = none := HNO.out (by rw [hdg]; omega)
                  have HR := Lib.hid hr
                  clear hr hdg
                  go_wp2_with fail
                  go_ret
                  rw [HR.out]
                  exact ⟨rfl, HBR.out⟩
                · have a5 : 65 ≤ bt (d) i := by omega
                  have a6 : ¬ bt (d) i ≤ 70 := by omega
                  have hdg : digV (bt (d) i) = 99 := by unfold digV; rw [if_neg (by omega), if_neg (by omega), if_neg (by omega)]
                  have hr : numX d = none := HNO.out (by rw [hdg]; omega)
                  have HR := Lib.hid hr
                  clear hr hdg
                  go_wp2_with fail
                  go_ret
                  rw [HR.out]
                  exact ⟨rfl, HBR.out⟩
              · by_cases a5 : 65 ≤ bt (d) i
                · by_cases a6 : bt (d) i ≤ 70
                  · have hdg : digV (bt (d) i) = bt (d) i - 65 + 10 := by unfold digV; rw [if_neg (by omega), if_neg (by omega), if_pos (by omega)]; omega
                    have g1 : IntKind.u8.wrap (bt (d) i - 65) = bt (d) i - 65 := by rw [IntKind.wrap_u8]; omega
                    have g2 : IntKind.i64.wrap (bt (d) i - 65) = bt (d) i - 65 := IntWalk.i64_in _ (by omega)
                    have g3 : IntKind.i64.wrap (bt (d) i - 65 + 10) = bt (d) i - 65 + 10 := IntWalk.i64_in _ (by omega)
                    have hdb : 10 ≤ bt (d) i - 65 + 10 := by omega
                    have hr : numX d = none := HNO.out (by rw [hdg]; omega)
                    have HR := Lib.hid hr
                    clear hr hdg
                    go_wp2_with fail
                    go_ret
                    rw [HR.out]
                    exact ⟨rfl, HBR.out⟩
                  · have hdg : digV (bt (d) i) = 99 := by unfold digV; rw [if_neg (by omega), if_neg (by omega), if_neg (by omega)]
                    have hr : numX d = none := HNO.out (by rw [hdg]; omega)
                    have HR := Lib.hid hr
                    clear hr hdg
                    go_wp2_with fail
                    go_ret
                    rw [HR.out]
                    exact ⟨rfl, HBR.out⟩
                · have hdg : digV (bt (d) i) = 99 := by unfold digV; rw [if_neg (by omega), if_neg (by omega), if_neg (by omega)]
                  have hr : numX d = none := HNO.out (by rw [hdg]; omega)
                  have HR := Lib.hid hr
                  clear hr hdg
                  go_wp2_with fail
                  go_ret
                  rw [HR.out]
                  exact ⟨rfl, HBR.out⟩
          · have a3 : ¬ 97 ≤ bt (d) i := by omega
            have a5 : ¬ 65 ≤ bt (d) i := by omega
            have hdg : digV (bt (d) i) = 99 := by unfold digV; rw [if_neg (by omega), if_neg (by omega), if_neg (by omega)]
            have hr : numX d = none := HNO.out (by rw [hdg]; omega)
            have HR := Lib.hid hr
            clear hr hdg
            go_wp2_with fail
            go_ret
            rw [HR.out]
            exact ⟨rfl, HBR.out⟩
        · have hiI : ¬ (i : Int) < n := by omega
          have hiD : ¬ (i : Int) < ((d).size : Int) := by rw [HN.out]; omega
          have hres : numF (d) 10 n 0 0 = some x := by
            rw [hp, show n - i = 0 by omega]
            rfl
          have hin : i = n := by omega
          have hpm : 10 ^ i ≤ 10 ^ 7 := Nat.pow_le_pow_right (by decide) (by omega)
          have hpe : 10 ^ 7 = 10000000 := by decide
          have w2 : IntKind.i32.wrap x = x := by rw [IntKind.wrap_i32]; omega
          have hch := rChar_any x wr
          cases hrc : rChar x with
          | true =>
            rw [hrc] at hch
            have hr : numX d = some x := by rw [HNB.out, hres]; simp only; rw [if_pos hrc]
            have HR := Lib.hid hr
            clear hres hr hp hg hlt hrc hpm hpe hin
            go_wp2_with fail
            refine hch.mono ?_
            rintro e w' ⟨rfl, rfl⟩
            go_wp2_with fail
            go_ret
            rw [HR.out]
            exact ⟨rfl, HBR.out⟩
          | false =>
            rw [hrc] at hch
            have hr : numX d = none := by rw [HNB.out, hres]; simp only; rw [if_neg (by rw [hrc]; simp)]
            have HR := Lib.hid hr
            clear hres hr hp hg hlt hrc hpm hpe hin
            go_wp2_with fail
            refine hch.mono ?_
            rintro e w' ⟨rfl, rfl⟩
            go_wp2_with fail
            go_ret
            rw [HR.out]
            exact ⟨rfl, HBR.out⟩
end
end
end

section
open Go.RowKit Go.PlainAid

/-- What Reference hands back. -/
def rfV (r : Option (Int × Nat)) : Value := match r with
  | none => .tuple #[.int .i32 0, .int .i64 0]
  | some r => .tuple #[.int .i32 r.1, .int .i64 (r.2 : Int)]
theorem numX_char {d : ByteArray} {r : Int} (h : numX d = some r) : rChar r = true := by
  have key : ∀ d b m, numB d b m = some r → rChar r = true := fun d b m hb => by
    unfold numB at hb
    split at hb
    · cases hb
    · cases hq : numF d b d.size 0 0 with
      | none => rw [hq] at hb; cases hb
      | some y =>
        rw [hq] at hb
        simp only at hb
        split at hb
        · injection hb with hb
          subst hb
          assumption
        · cases hb
  unfold numX at h
  split at h
  · exact key _ _ _ h
  · exact key _ _ _ h
theorem enc_val {r : Int} (h : okRune r) : Utf8.encode r = encB r := by
  unfold okRune at h
  obtain ⟨c, rfl⟩ := Int.eq_ofNat_of_zero_le (show 0 ≤ r by omega)
  have hv : Utf8.valid ((c : Nat) : Int) = true := by
    unfold Utf8.valid
    simp
    omega
  unfold Utf8.encode encB Lib.encodeRune
  simp only [hv, if_true, Int.toNat_natCast]
  by_cases h1 : c < 128
  · rw [if_pos h1, Lib.encodeRuneZ_one (by omega) (by omega)]
    rfl
  · rw [if_neg h1]
    by_cases h2 : c < 2048
    · rw [if_pos h2, Lib.encodeRuneZ_two (by omega) (by omega)]
      simp only [List.map_cons, List.map_nil]
      rw [show ((192 + (c : Int) / 64).toNat) = 192 + c / 64 by omega, show ((128 + (c : Int) % 64).toNat) = 128 + c % 64 by omega]
    · rw [if_neg h2]
      by_cases h3 : c < 65536
      · rw [if_pos h3, Lib.encodeRuneZ_three (by omega)]
        simp only [List.map_cons, List.map_nil]
        rw [show ((224 + (c : Int) / 4096).toNat) = 224 + c / 4096 by omega, show ((128 + (c : Int) / 64 % 64).toNat) = 128 + c / 64 % 64 by omega, show ((128 + (c : Int) % 64).toNat) = 128 + c % 64 by omega]
      · rw [if_neg h3, Lib.encodeRuneZ_four (by omega) (by omega)]
        simp only [List.map_cons, List.map_nil]
        rw [show ((240 + (c : Int) / 262144).toNat) = 240 + c / 262144 by omega, show ((128 + (c : Int) / 4096 % 64).toNat) = 128 + c / 4096 % 64 by omega, show ((128 + (c : Int) / 64 % 64).toNat) = 128 + c / 64 % 64 by omega, show ((128 + (c : Int) % 64).toNat) = 128 + c % 64 by omega]
theorem ix_semi (s : ByteArray) (p : Nat) (hp : p < s.size) (h38 : bt s p = 38) : Lib.indexByte (s.extract p s.size).data.toList 59 = match semi (s.extract p s.size) 1 with | none => -1 | some e => (e : Int) := by
  have hz := rest_size s p (by omega)
  have h0 : bt (s.extract p s.size) 0 = 38 := by rw [bt_extract]; exact h38
  generalize s.extract p s.size = t at hz h0
  have h := indexByte_semi t t.size 0 (by omega)
  rw [List.drop_zero] at h
  rw [h]
  unfold semi
  have hsm : smF t t.size 0 = smF t (t.size - 1) 1 := by
    rw [show t.size = (t.size - 1) + 1 by omega]
    conv => lhs; unfold smF
    rw [if_neg (by omega)]
    rfl
  rw [hsm]
  cases smF t (t.size - 1) 1 with
  | none => rfl
  | some e => simp
/-- What a step that hands back a text comes to: none, if something is wrong. -/
def PcEnd (x : Xr ByteArray) (cb : Nat) (s : ByteArray) (c4 c5 c6 c7 : Value) (w : World) (en : Ending) (w' : World) : Prop :=
  match x with
  | .bad e a => e ≠ 0 ∧ en = .returned (.string ⟨#[]⟩) ∧ ∃ q, q ≤ s.size ∧ ScnM cb s e (a : Int) c4 c5 c6 c7 w q w'
  | .ok q v => en = .returned (.string v) ∧ ScnM cb s 0 0 c4 c5 c6 c7 w q w'
section
set_option maxRecDepth 100000
set_option maxHeartbeats 4000000
theorem rRef_any (s : ByteArray) (p : Nat) (hp : p < s.size) (h38 : bt s p = 38) (hz : s.size ≤ 4000000000) (w : World) :
    Calls Tryz.prog 79 #[.string s, .int .i64 (p : Int)] w fun e w' => e = .returned (rfV (refX s p)) ∧ Below w.heap.size w w' := by
  have hix := Tryz.strings_IndexByte (s.extract p s.size) 59 w
  rw [show ((59 : Int).toNat.toUInt8) = 59 from rfl, ix_semi s p hp h38] at hix
  have hrz := rest_size s p (by omega)
  have hp0 : (0 : Int) ≤ p := by omega
  have hps : (p : Int) ≤ s.size := by omega
  obtain ⟨t, ht⟩ : ∃ t, s.extract p s.size = t := ⟨_, rfl⟩
  have hrx : refX s p = refT t := by unfold refX; rw [ht]
  rw [ht] at hrz
  cases hs : semi t 1 with
  | none =>
    have hs' : semi (s.extract p s.size) 1 = none := by rw [ht]; exact hs
    rw [hs'] at hix
    clear hs'
    simp only at hix
    have hr : refX s p = none := by rw [hrx]; unfold refT; rw [hs]
    have HR := Lib.hid hr
    clear hr hrx hs ht hrz
    go_enter Tryz.func79, Tryz.ntmps79
    go_wp2_with fail
    refine hix.mono ?_
    rintro e w' ⟨rfl, rfl⟩
    go_wp2_with fail
    go_ret2
    rw [HR.out]
    exact ⟨rfl, Below.refl _ _⟩
  | some e =>
    have hs' : semi (s.extract p s.size) 1 = some e := by rw [ht]; exact hs
    rw [hs'] at hix
    clear hs'
    simp only at hix
    obtain ⟨he1, he2, _⟩ := semi_in hs
    have f1 : IntKind.i64.wrap ((p : Int) + 1) = (p : Int) + 1 := IntWalk.i64_in _ (by omega)
    have f2 : IntKind.i64.wrap ((p : Int) + (e : Int)) = (p : Int) + (e : Int) := IntWalk.i64_in _ (by omega)
    have f3 : IntKind.i64.wrap ((e : Int) + 1) = (e : Int) + 1 := IntWalk.i64_in _ (by omega)
    have n1 : ((p : Int) + 1).toNat = p + 1 := by omega
    have n2 : ((p : Int) + (e : Int)).toNat = p + e := by omega
    have o1 : (0 : Int) ≤ (p : Int) + 1 := by omega
    have o2 : (p : Int) + 1 ≤ (p : Int) + (e : Int) := by omega
    have o3 : (p : Int) + (e : Int) ≤ s.size := by omega
    have o4 : ¬ (e : Int) < 0 := by omega
    obtain ⟨B, hB⟩ : ∃ B, s.extract (p + 1) (p + e) = B := ⟨_, rfl⟩
    have hBt : t.extract 1 e = B := by
      rw [← ht, ← hB, ByteArray.extract_extract]
      congr 1
      omega
    have hBz : B.size = e - 1 := by rw [← hBt, ByteArray.size_extract]; omega
    have hrt : refT t = match fiveX B with
      | some r => some (r, e + 1)
      | none => if bt t 1 = 35 then (match numX (t.extract 2 e) with | none => none | some r => some (r, e + 1)) else none := by
      unfold refT
      rw [hs]
      simp only
      rw [hBt]
      cases fiveX B with
      | some r => rfl
      | none => cases numX (t.extract 2 e) <;> rfl
    have hex : bt B 0 = 35 ↔ bt t 1 = 35 := by
      by_cases hk : e = 1
      · rw [bt_end B (by omega)]
        have := semi_in hs
        rw [hk] at this
        omega
      · rw [← hBt, bt_sub t 1 e 0 (by omega) (by omega)]
    have her : B.extract 1 B.size = t.extract 2 e := by
      rw [← hBt]; exact extract_rest t 1 e (by omega)
    have hpr := fun W => pre_one B 35 (by decide) W
    rw [show (((35 : UInt8).toNat : Nat) : Int) = 35 from rfl] at hpr
    cases hf : fiveX B with
    | some r =>
      rw [hf] at hrt
      simp only at hrt
      have HR := Lib.hid (hrx.trans hrt)
      have hnm := fun W => rNamed_some B r hf W
      have hr0 : ¬ r = 0 ∧ ¬ bt B 0 = 35 := by
        rcases five_cases hf with ⟨rfl, rfl⟩ | ⟨rfl, rfl⟩ | ⟨rfl, rfl⟩ | ⟨rfl, rfl⟩ | ⟨rfl, rfl⟩ <;> exact ⟨by decide, by decide⟩
      have hr1 : (r == 0) = false := by simpa using hr0.1
      have hr2 : r ≠ 0 := hr0.1
      rw [show (bt B 0 == 35) = false by simpa using hr0.2] at hpr
      clear hrt hrx hf hex her hs ht hBt hr0 he1 he2 hrz
      go_enter Tryz.func79, Tryz.ntmps79
      go_wp2_with fail
      refine hix.mono ?_
      rintro e w' ⟨rfl, rfl⟩
      go_wp2_with fail
      refine (hnm _).mono ?_
      rintro e w' ⟨rfl, rfl⟩
      go_wp2_with fail
      refine (hpr _).mono ?_
      rintro e w' ⟨rfl, rfl⟩
      go_wp2_with fail
      go_ret2
      rw [HR.out]
      exact ⟨rfl, Below.refl _ _⟩
    | none =>
      rw [hf] at hrt
      simp only at hrt
      have hnm := fun W => rNamed_none B hf W
      by_cases h35 : bt B 0 = 35
      · rw [if_pos (hex.1 h35)] at hrt
        rw [show (bt B 0 == 35) = true by simpa using h35] at hpr
        have hB1 : (1 : Int) ≤ B.size := by
          by_cases hk : e = 1
          · rw [bt_end B (by omega)] at h35; omega
          · omega
        obtain ⟨D, hD⟩ : ∃ D, B.extract 1 B.size = D := ⟨_, rfl⟩
        rw [← her, hD] at hrt
        have hDz : D.size ≤ 4000000000 := by rw [← hD, ByteArray.size_extract]; omega
        have hnu : ∀ W, Calls Tryz.prog 103 #[.string D] W fun e w' => e = .returned (.int .i32 ((numX D).getD 0)) ∧ Below W.heap.size W w' := fun W => by
          by_cases hx : bt D 0 = 120
          · exact rNumber_hex D W hx hDz
          · exact rNumber_dec D W hx hDz
        cases hn : numX D with
        | none =>
          rw [hn] at hnu hrt
          simp only [Option.getD_none] at hnu hrt
          have HR := Lib.hid (hrx.trans hrt)
          clear hrt hrx hf hex her hs ht hBt he1 he2 hrz hBz h35 hn
          go_enter Tryz.func79, Tryz.ntmps79
          go_wp2_with fail
          refine hix.mono ?_
          rintro e w' ⟨rfl, rfl⟩
          go_wp2_with fail
          refine (hnm _).mono ?_
          rintro e w' ⟨rfl, rfl⟩
          go_wp2_with fail
          refine (hpr _).mono ?_
          rintro e w' ⟨rfl, rfl⟩
          go_wp2_with fail
          refine (hnu _).mono ?_
          rintro e w1 ⟨rfl, hB1⟩
          go_wp2_with fail
          go_ret2
          rw [HR.out]
          exact ⟨rfl, hB1⟩
        | some r =>
          rw [hn] at hnu hrt
          simp only [Option.getD_some] at hnu hrt
          have hch := numX_char hn
          have hr2 : r ≠ 0 := by
            rintro rfl
            revert hch
            decide
          have hr1 : (r == 0) = false := by simpa using hr2
          have HR := Lib.hid (hrx.trans hrt)
          clear hrt hrx hf hex her hs ht hBt he1 he2 hrz hBz h35 hn hch
          go_enter Tryz.func79, Tryz.ntmps79
          go_wp2_with fail
          refine hix.mono ?_
          rintro e w' ⟨rfl, rfl⟩
          go_wp2_with fail
          refine (hnm _).mono ?_
          rintro e w' ⟨rfl, rfl⟩
          go_wp2_with fail
          refine (hpr _).mono ?_
          rintro e w' ⟨rfl, rfl⟩
          go_wp2_with fail
          refine (hnu _).mono ?_
          rintro e w1 ⟨rfl, hB1⟩
          go_wp2_with fail
          go_ret2
          rw [HR.out]
          exact ⟨rfl, hB1⟩
      · rw [if_neg (fun h => h35 (hex.2 h))] at hrt
        rw [show (bt B 0 == 35) = false by simpa using h35] at hpr
        have HR := Lib.hid (hrx.trans hrt)
        clear hrt hrx hf hex her hs ht hBt he1 he2 hrz hBz h35
        go_enter Tryz.func79, Tryz.ntmps79
        go_wp2_with fail
        refine hix.mono ?_
        rintro e w' ⟨rfl, rfl⟩
        go_wp2_with fail
        refine (hnm _).mono ?_
        rintro e w' ⟨rfl, rfl⟩
        go_wp2_with fail
        refine (hpr _).mono ?_
        rintro e w' ⟨rfl, rfl⟩
        go_wp2_with fail
        go_ret2
        rw [HR.out]
        exact ⟨rfl, Below.refl _ _⟩
variable {cb : Nat} {s : ByteArray} {p : Nat} {c4 c5 c6 c7 : Value} {w : World}
theorem rPiece_any (h : Scn cb s p 0 0 c4 c5 c6 c7 w) (hp : p < s.size) (hz : s.size ≤ 4000000000) :
    Calls Tryz.prog 54 #[.pointer (some ⟨cb, 0, none⟩)] w fun en w' => PcEnd (pieceX s p) cb s c4 c5 c6 c7 w en w' := by
  have c0 := h.cell0
  have c1 := h.cell1
  have HH := Lib.hid h
  have hbt := get_bt s
  have hp0 : (0 : Int) ≤ p := by omega
  have hpI : (p : Int) < s.size := by omega
  by_cases h38 : bt s p = 38
  · have hrf := fun W => rRef_any s p hp h38 hz W
    have hpx : pieceX s p = match refX s p with | none => .bad 141 p | some (r, n) => .ok (p + n) (encB r) := by
      unfold pieceX; rw [if_pos h38]; rfl
    cases hrx : refX s p with
    | none =>
      rw [hrx] at hpx hrf
      simp only [rfV] at hpx hrf
      have HX := Lib.hid hpx
      clear hpx hrx h
      go_enter Tryz.func54, Tryz.ntmps54
      go_upto_region 1 with fail
      go_quiet (fail)
      generalize hw0 : World.drewN w _ = w0
      have hB0 : Below w.heap.size w w0 := by rw [← hw0]; exact bdN0 (Below.refl _ _) _
      have hSd : w0.drew.cell? ⟨cb, 0, none⟩ = some (Value.string s) ∧ w0.drew.cell? ⟨cb, 1, none⟩ = some (Value.int .i64 (p : Int)) ∧ Below w.heap.size w w0.drew := ⟨(HH.out.on hB0).cell0, (HH.out.on hB0).cell1, hB0.drew⟩
      have HB0 := Lib.hid hB0
      clear c0 c1 hw0 hB0
      go_upto_region 2 with fail
      refine wp_region_held_drew (S := fun w' => w'.cell? ⟨cb, 0, none⟩ = some (Value.string s) ∧ w'.cell? ⟨cb, 1, none⟩ = some (Value.int .i64 (p : Int)) ∧ Below w.heap.size w w') (by kernel_rfl) (hSd) (fun hHeld => ?_)
      refine tkH 0 hHeld ?_
      refine tkH 1 hHeld ?_
      refine tkH 2 hHeld ?_
      refine tkH 3 hHeld ?_
      refine tkH 4 hHeld ?_
      refine tkH 5 hHeld ?_
      refine tkH 6 hHeld ?_
      refine tkH 7 hHeld ?_
      refine wpAnyH_ready (rs := [8]) (by kernel_rfl) (by simp) ?_
      refine AllReadyH.cons rfl (fun K hK => ?_) AllReadyH.nil
      go_simp
      go_wp2_with (go_at_call 79; refine (hrf _).mono ?_; rintro e wy ⟨rfl, hBy⟩; have hBw : Below w.heap.size w wy := HB0.out.drew.trans (hBy.mono HB0.out.size); have hMy := HH.out.on hBw; have hSy : wy.cell? ⟨cb, 0, none⟩ = some (Value.string s) ∧ wy.cell? ⟨cb, 1, none⟩ = some (Value.int .i64 (p : Int)) ∧ Below w.heap.size w wy := ⟨hMy.cell0, hMy.cell1, hBw⟩)
      refine hK.out _ _ (hSy) (fun hHeld => ?_)
      clear hK K
      refine tkH 9 hHeld ?_
      refine tkH 10 hHeld ?_
      refine tkH 11 hHeld ?_
      refine tkH 12 hHeld ?_
      refine tkH 13 hHeld ?_
      refine wpAnyH_done (by kernel_rfl) ?_ _
      have hwf := wrong_first hMy 141 (p : Int)
      have d1 := hMy.cell1
      have HS := Lib.hid (hMy.mark 141 (p : Int)); have HK := Lib.hid (((KeepX.of (x := cb) hBw (Nat.le_refl _)).setCell 2 (.int .i64 141)).setCell 3 (.int .i64 (p : Int)))
      clear hHeld hSy hSd hMy hBy hBw
      go_wp2_with fail
      refine hwf.mono ?_
      rintro e w' ⟨rfl, rfl⟩
      go_wp2_with fail
      go_ret
      rw [HX.out]
      refine ⟨by decide, rfl, ?_⟩
      exact ⟨_, Nat.le_of_lt hp, HS.out, HK.out⟩
    | some rr =>
      obtain ⟨r, n⟩ := rr
      obtain ⟨hok, hin, hge⟩ := refX_ok hrx (by omega)
      simp only at hok hin hge
      rw [hrx] at hpx hrf
      simp only [rfV] at hpx hrf
      have HX := Lib.hid hpx
      have f1 : IntKind.i64.wrap ((p : Int) + (n : Int)) = ((p + n : Nat) : Int) := by rw [IntWalk.i64_in _ (by omega)]; omega
      have hn1 : ((n : Int) == 0) = false := by simp; omega
      have hn2 : ¬ (n : Int) = 0 := by omega
      have HOK := Lib.hid hok
      clear hpx hrx h hok
      go_enter Tryz.func54, Tryz.ntmps54
      go_upto_region 1 with fail
      go_quiet (fail)
      generalize hw0 : World.drewN w _ = w0
      have hB0 : Below w.heap.size w w0 := by rw [← hw0]; exact bdN0 (Below.refl _ _) _
      have hSd : w0.drew.cell? ⟨cb, 0, none⟩ = some (Value.string s) ∧ w0.drew.cell? ⟨cb, 1, none⟩ = some (Value.int .i64 (p : Int)) ∧ Below w.heap.size w w0.drew := ⟨(HH.out.on hB0).cell0, (HH.out.on hB0).cell1, hB0.drew⟩
      have HB0 := Lib.hid hB0
      clear c0 c1 hw0 hB0
      go_upto_region 2 with fail
      refine wp_region_held_drew (S := fun w' => w'.cell? ⟨cb, 0, none⟩ = some (Value.string s) ∧ w'.cell? ⟨cb, 1, none⟩ = some (Value.int .i64 (p : Int)) ∧ Below w.heap.size w w') (by kernel_rfl) (hSd) (fun hHeld => ?_)
      refine tkH 0 hHeld ?_
      refine tkH 1 hHeld ?_
      refine tkH 2 hHeld ?_
      refine tkH 3 hHeld ?_
      refine tkH 4 hHeld ?_
      refine tkH 5 hHeld ?_
      refine tkH 6 hHeld ?_
      refine tkH 7 hHeld ?_
      refine wpAnyH_ready (rs := [8]) (by kernel_rfl) (by simp) ?_
      refine AllReadyH.cons rfl (fun K hK => ?_) AllReadyH.nil
      go_simp
      go_wp2_with (go_at_call 79; refine (hrf _).mono ?_; rintro e wy ⟨rfl, hBy⟩; have hBw : Below w.heap.size w wy := HB0.out.drew.trans (hBy.mono HB0.out.size); have hMy := HH.out.on hBw; have hSy : wy.cell? ⟨cb, 0, none⟩ = some (Value.string s) ∧ wy.cell? ⟨cb, 1, none⟩ = some (Value.int .i64 (p : Int)) ∧ Below w.heap.size w wy := ⟨hMy.cell0, hMy.cell1, hBw⟩)
      refine hK.out _ _ (hSy) (fun hHeld => ?_)
      clear hK K
      refine tkH 9 hHeld ?_
      refine tkH 10 hHeld ?_
      refine tkH 11 hHeld ?_
      refine tkH 12 hHeld ?_
      refine tkH 13 hHeld ?_
      refine wpAnyH_done (by kernel_rfl) ?_ _
      have d1 := hMy.cell1
      have d0 := freeH hMy 1
      have HS := Lib.hid (hMy.set1 (p + n)); have HK := Lib.hid ((KeepX.of (x := cb) hBw (Nat.le_refl _)).setCell 1 (.int .i64 ((p + n : Nat) : Int)))
      clear hHeld hSy hSd hMy hBy hBw
      go_wp2_with fail
      go_ret
      rw [HX.out]
      refine ⟨ret_val (congrArg Value.string (enc_val HOK.out).symm), ?_⟩
      exact ⟨HS.out, HK.out⟩
  · have hfm := fun W => rForm_in s p (by omega) hp W
    rw [formS_wd] at hfm
    replace hfm : ∀ W, Calls Tryz.prog 49 #[.string s, .int .i64 (p : Int)] W fun e w' => e = .returned (.tuple #[.int .i32 (rn s p), .int .i64 (wd s p)]) ∧ Below W.heap.size W w' := fun W => (hfm W).mono fun e w' h => ⟨h.1, h.2 ▸ Below.refl _ _⟩
    have hpx : pieceX s p = if rChar (rn s p) = true then .ok (p + wd s p) (s.extract p (p + wd s p)) else .bad 140 p := by
      unfold pieceX; rw [if_neg h38]
    have hwd := wd_pos s p hp
    have hin := wd_in s p hp
    have h38e : (bt s p == 38) = false := by simpa using h38
    obtain ⟨n, hn⟩ : ∃ n, wd s p = n := ⟨_, rfl⟩
    obtain ⟨r, hr⟩ : ∃ r, rn s p = r := ⟨_, rfl⟩
    rw [hn, hr] at hpx hfm
    rw [hn] at hwd hin
    have hch := fun W => rChar_any r W
    cases hrc : rChar r with
    | false =>
      rw [hrc] at hpx hch
      rw [if_neg (by decide)] at hpx
      have HX := Lib.hid hpx
      clear hpx hrc h hn hr hin
      go_enter Tryz.func54, Tryz.ntmps54
      go_upto_region 1 with fail
      go_quiet (fail)
      generalize hw0 : World.drewN w _ = w0
      have hB0 : Below w.heap.size w w0 := by rw [← hw0]; exact bdN0 (Below.refl _ _) _
      have hSd : w0.drew.cell? ⟨cb, 0, none⟩ = some (Value.string s) ∧ w0.drew.cell? ⟨cb, 1, none⟩ = some (Value.int .i64 (p : Int)) ∧ Below w.heap.size w w0.drew := ⟨(HH.out.on hB0).cell0, (HH.out.on hB0).cell1, hB0.drew⟩
      have HB0 := Lib.hid hB0
      clear c0 c1 hw0 hB0
      go_upto_region 8 with fail
      refine wp_region_held_drew (S := fun w' => w'.cell? ⟨cb, 0, none⟩ = some (Value.string s) ∧ w'.cell? ⟨cb, 1, none⟩ = some (Value.int .i64 (p : Int)) ∧ Below w.heap.size w w') (by kernel_rfl) (hSd) (fun hHeld => ?_)
      refine tkH 0 hHeld ?_
      refine tkH 1 hHeld ?_
      refine tkH 2 hHeld ?_
      refine tkH 3 hHeld ?_
      refine tkH 4 hHeld ?_
      refine tkH 5 hHeld ?_
      refine tkH 6 hHeld ?_
      refine tkH 7 hHeld ?_
      refine wpAnyH_ready (rs := [8]) (by kernel_rfl) (by simp) ?_
      refine AllReadyH.cons rfl (fun K hK => ?_) AllReadyH.nil
      go_simp
      go_wp2_with (go_at_call 49; refine (hfm _).mono ?_; rintro e wy ⟨rfl, hBy⟩; have hBw : Below w.heap.size w wy := HB0.out.drew.trans (hBy.mono HB0.out.size); have hMy := HH.out.on hBw; have hSy : wy.cell? ⟨cb, 0, none⟩ = some (Value.string s) ∧ wy.cell? ⟨cb, 1, none⟩ = some (Value.int .i64 (p : Int)) ∧ Below w.heap.size w wy := ⟨hMy.cell0, hMy.cell1, hBw⟩)
      refine hK.out _ _ (hSy) (fun hHeld => ?_)
      clear hK K
      refine tkH 9 hHeld ?_
      refine tkH 10 hHeld ?_
      refine tkH 11 hHeld ?_
      refine tkH 12 hHeld ?_
      refine tkH 13 hHeld ?_
      refine wpAnyH_done (by kernel_rfl) ?_ _
      have hwf := wrong_first hMy 140 (p : Int)
      have d1 := hMy.cell1
      have HS := Lib.hid (hMy.mark 140 (p : Int)); have HK := Lib.hid (((KeepX.of (x := cb) hBw (Nat.le_refl _)).setCell 2 (.int .i64 140)).setCell 3 (.int .i64 (p : Int)))
      clear hHeld hSy hSd hMy hBy hBw
      go_wp2_with fail
      refine (hch _).mono ?_
      rintro e w' ⟨rfl, rfl⟩
      go_wp2_with fail
      refine hwf.mono ?_
      rintro e w' ⟨rfl, rfl⟩
      go_wp2_with fail
      go_ret
      rw [HX.out]
      refine ⟨by decide, rfl, ?_⟩
      exact ⟨_, Nat.le_of_lt hp, HS.out, HK.out⟩
    | true =>
      rw [hrc] at hpx hch
      rw [if_pos rfl] at hpx
      have HX := Lib.hid hpx
      have f1 : IntKind.i64.wrap ((p : Int) + (n : Int)) = (p : Int) + (n : Int) := by rw [IntWalk.i64_in _ (by omega)]
      have f2 : IntKind.i64.wrap ((p : Int) + (n : Int) - (n : Int)) = (p : Int) := by rw [IntWalk.i64_in _ (by omega)]; omega
      have o1 : (p : Int) ≤ (p : Int) + (n : Int) := by omega
      have o2 : (p : Int) + (n : Int) ≤ s.size := by omega
      have n2 : ((p : Int) + (n : Int)).toNat = p + n := by omega
      clear hpx hrc h hn hr
      go_enter Tryz.func54, Tryz.ntmps54
      go_upto_region 1 with fail
      go_quiet (fail)
      generalize hw0 : World.drewN w _ = w0
      have hB0 : Below w.heap.size w w0 := by rw [← hw0]; exact bdN0 (Below.refl _ _) _
      have hSd : w0.drew.cell? ⟨cb, 0, none⟩ = some (Value.string s) ∧ w0.drew.cell? ⟨cb, 1, none⟩ = some (Value.int .i64 (p : Int)) ∧ Below w.heap.size w w0.drew := ⟨(HH.out.on hB0).cell0, (HH.out.on hB0).cell1, hB0.drew⟩
      have HB0 := Lib.hid hB0
      clear c0 c1 hw0 hB0
      go_upto_region 8 with fail
      refine wp_region_held_drew (S := fun w' => w'.cell? ⟨cb, 0, none⟩ = some (Value.string s) ∧ w'.cell? ⟨cb, 1, none⟩ = some (Value.int .i64 (p : Int)) ∧ Below w.heap.size w w') (by kernel_rfl) (hSd) (fun hHeld => ?_)
      refine tkH 0 hHeld ?_
      refine tkH 1 hHeld ?_
      refine tkH 2 hHeld ?_
      refine tkH 3 hHeld ?_
      refine tkH 4 hHeld ?_
      refine tkH 5 hHeld ?_
      refine tkH 6 hHeld ?_
      refine tkH 7 hHeld ?_
      refine wpAnyH_ready (rs := [8]) (by kernel_rfl) (by simp) ?_
      refine AllReadyH.cons rfl (fun K hK => ?_) AllReadyH.nil
      go_simp
      go_wp2_with (go_at_call 49; refine (hfm _).mono ?_; rintro e wy ⟨rfl, hBy⟩; have hBw : Below w.heap.size w wy := HB0.out.drew.trans (hBy.mono HB0.out.size); have hMy := HH.out.on hBw; have hSy : wy.cell? ⟨cb, 0, none⟩ = some (Value.string s) ∧ wy.cell? ⟨cb, 1, none⟩ = some (Value.int .i64 (p : Int)) ∧ Below w.heap.size w wy := ⟨hMy.cell0, hMy.cell1, hBw⟩)
      refine hK.out _ _ (hSy) (fun hHeld => ?_)
      clear hK K
      refine tkH 9 hHeld ?_
      refine tkH 10 hHeld ?_
      refine tkH 11 hHeld ?_
      refine tkH 12 hHeld ?_
      refine tkH 13 hHeld ?_
      refine wpAnyH_done (by kernel_rfl) ?_ _
      have d1 := hMy.cell1
      have d0 := freeH hMy 1
      have hS2 := hMy.set1 (p + n)
      rw [show ((p + n : Nat) : Int) = (p : Int) + (n : Int) by omega] at hS2
      have e0 := hS2.cell0
      have e1 := hS2.cell1
      rw [show ((p + n : Nat) : Int) = (p : Int) + (n : Int) by omega] at e1
      have HS := Lib.hid hS2; have HK := Lib.hid ((KeepX.of (x := cb) hBw (Nat.le_refl _)).setCell 1 (.int .i64 ((p : Int) + (n : Int))))
      clear hHeld hSy hSd hMy hBy hBw hS2
      go_wp2_with fail
      refine (hch _).mono ?_
      rintro e w' ⟨rfl, rfl⟩
      go_upto_region 13 with fail
      go_quiet (fail)
      go_wp2_with fail
      go_ret
      rw [HX.out]
      exact ⟨rfl, HS.out.on (bdN0 (Below.refl _ _) _), HK.out.on (bdN0 (Below.refl _ _) _) (Nat.le_refl _)⟩
end
end
end Go.Proofs.YtnmpbphnfiiafaaGreatDoor
