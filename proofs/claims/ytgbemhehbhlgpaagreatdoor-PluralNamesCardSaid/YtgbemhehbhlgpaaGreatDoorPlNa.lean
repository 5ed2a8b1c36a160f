/-
  The six categories: the document's names and places.
-/
import Derived.Test.YtgbemhehbhlgpaaGreatDoorPlR
import Derived.Test.YtgbemhehbhlgpaaGreatDoorPlHo
import Derived.Deep.LoopGhost
namespace Go.Proofs.YtgbemhehbhlgpaaGreatDoor
open Go.RowKit Go.PlainAid

/-- The names of the categories, in their order. -/
def nameB (i : Int) : ByteArray := if i = 0 then ⟨#[122, 101, 114, 111]⟩ else if i = 1 then ⟨#[111, 110, 101]⟩ else if i = 2 then ⟨#[116, 119, 111]⟩ else if i = 3 then ⟨#[102, 101, 119]⟩ else if i = 4 then ⟨#[109, 97, 110, 121]⟩ else if i = 5 then ⟨#[111, 116, 104, 101, 114]⟩ else ⟨#[]⟩
set_option maxRecDepth 100000 in
theorem rName_any (i : Int) (w : World) : Calls Tryz.prog 13 #[.int .i64 i] w fun e w' => e = .returned (.string (nameB i)) ∧ w = w' := by
  by_cases h0 : i = 0
  · subst h0
    go_enter Tryz.func13, Tryz.ntmps13
    go_wp2_with fail
    go_ret
    exact ⟨rfl, rfl⟩
  by_cases h1 : i = 1
  · subst h1
    go_enter Tryz.func13, Tryz.ntmps13
    go_wp2_with fail
    go_ret
    exact ⟨rfl, rfl⟩
  by_cases h2 : i = 2
  · subst h2
    go_enter Tryz.func13, Tryz.ntmps13
    go_wp2_with fail
    go_ret
    exact ⟨rfl, rfl⟩
  by_cases h3 : i = 3
  · subst h3
    go_enter Tryz.func13, Tryz.ntmps13
    go_wp2_with fail
    go_ret
    exact ⟨rfl, rfl⟩
  by_cases h4 : i = 4
  · subst h4
    go_enter Tryz.func13, Tryz.ntmps13
    go_wp2_with fail
    go_ret
    exact ⟨rfl, rfl⟩
  by_cases h5 : i = 5
  · subst h5
    go_enter Tryz.func13, Tryz.ntmps13
    go_wp2_with fail
    go_ret
    exact ⟨rfl, rfl⟩
  have e0 : (i == 0) = false := by simpa using h0
  have e1 : (i == 1) = false := by simpa using h1
  have e2 : (i == 2) = false := by simpa using h2
  have e3 : (i == 3) = false := by simpa using h3
  have e4 : (i == 4) = false := by simpa using h4
  have e5 : (i == 5) = false := by simpa using h5
  have hn : nameB i = ⟨#[]⟩ := by unfold nameB; rw [if_neg h0, if_neg h1, if_neg h2, if_neg h3, if_neg h4, if_neg h5]
  rw [hn]
  clear h0 h1 h2 h3 h4 h5 hn
  go_enter Tryz.func13, Tryz.ntmps13
  go_wp2_with fail
  go_ret
  exact ⟨rfl, rfl⟩
/-- The place of a category; -1: it is none. -/
def plcF (s : ByteArray) : Nat → Nat → Int
  | 0, _ => -1
  | f + 1, i => if nameB (i : Int) = s then i else plcF s f (i + 1)
def plcB (s : ByteArray) : Int := plcF s 6 0
theorem bytes_eqb (x y : ByteArray) : (x.toList == y.toList) = decide (x = y) := by
  by_cases h : x = y
  · subst h
    simp
  · rw [decide_eq_false h]
    have hne : x.toList ≠ y.toList := fun e => h (by
      have h1 : x = ⟨x.toList.toArray⟩ := (by
        have := tl_yes (X := x) (l := x.data.toList) (by cases x; simp)
        have h2 : x.toList = x.data.toList := by simpa using this
        rw [h2])
      have h3 : y = ⟨y.toList.toArray⟩ := (by
        have := tl_yes (X := y) (l := y.data.toList) (by cases y; simp)
        have h2 : y.toList = y.data.toList := by simpa using this
        rw [h2])
      rw [h1, h3, e])
    simpa using hne
set_option maxRecDepth 100000 in
set_option maxHeartbeats 1000000 in
theorem rPlace_any (s : ByteArray) (w : World) : Calls Tryz.prog 16 #[.string s] w fun e w' => e = .returned (.int .i64 (plcB s)) ∧ w = w' := by
  go_enter Tryz.func16, Tryz.ntmps16
  go_wp2_with fail
  go_loopg [3] 7 (fun f s3 wx => ∃ i : Nat, s3 = .int .i64 (i : Int) ∧ f + i = 7 ∧ i ≤ 6 ∧ plcB s = plcF s (6 - i) i ∧ w = wx)
  case atStart => exact ⟨0, rfl, rfl, Nat.zero_le _, rfl, rfl⟩
  case round =>
    obtain ⟨i, rfl, hg, hi, hp, rfl⟩ := hrel
    have HG := Lib.hid hg; have HP := Lib.hid hp
    have hn := rName_any (i : Int) w
    have hw : IntKind.i64.wrap ((i : Int) + 1) = (i : Int) + 1 := IntWalk.i64_in _ (by omega)
    by_cases hlt : i < 6
    · have hiI : (i : Int) < 6 := by omega
      have hst : plcF s (6 - i) i = if nameB (i : Int) = s then (i : Int) else plcF s (6 - (i + 1)) (i + 1) := by
        rw [show 6 - i = (6 - (i + 1)) + 1 by omega]
        rfl
      have hq := bytes_eqb (nameB (i : Int)) s
      by_cases he : nameB (i : Int) = s
      · rw [decide_eq_true he] at hq
        have hres : plcB s = (i : Int) := by rw [hp, hst, if_pos he]
        have HR := Lib.hid hres
        generalize nameB (i : Int) = N at *
        clear hst he hres hp hg hi
        go_wp2_with fail
        refine hn.mono ?_
        rintro e w' ⟨rfl, rfl⟩
        go_wp2_with fail
        go_ret
        exact ⟨ret_int HR.out.symm, rfl⟩
      · rw [decide_eq_false he] at hq
        have hnx : plcB s = plcF s (6 - (i + 1)) (i + 1) := by rw [hp, hst, if_neg he]
        have HNX := Lib.hid hnx; have HLT := Lib.hid hlt
        generalize nameB (i : Int) = N at *
        clear hst he hnx hp hg hi hlt
        go_wp2_with fail
        refine hn.mono ?_
        rintro e w' ⟨rfl, rfl⟩
        go_wp2_with fail
        go_roundg (6 - i)
        case rel => exact ⟨i + 1, by simp, by have := HG.out; have := HLT.out; omega, HLT.out, HNX.out, rfl⟩
        case measure => have := HG.out; have := HLT.out; omega
    · have hiI : ¬ (i : Int) < 6 := by omega
      have hres : plcB s = -1 := by
        rw [hp, show 6 - i = 0 by omega]
        rfl
      have HR := Lib.hid hres
      clear hres hp hg hi hlt hn
      go_wp2_with fail
      go_ret
      exact ⟨ret_int HR.out.symm, rfl⟩
end Go.Proofs.YtgbemhehbhlgpaaGreatDoor
