/-
  strings.NewReplacer at Escape's eight texts.
-/
import Derived.Test.YtnmpbphnfiiafaaGreatDoorXmK5
namespace Go.Proofs.YtnmpbphnfiiafaaGreatDoor
open Go.RowKit Go.PlainAid

/-- Several elements put behind. -/
theorem wpList_more_g {α : Type} (E : ETy α) {ops : Array Oper} {rest : List Oper} {o : Oper} {a : Act} {Q : Exit → Act → World → Prop} {w : World} (xs : List α) (hgd : o.guard = none) (s y : Operand)
    (ho : o.op = .call { callee := .builtin .append, args := #[s, y], argTypes := #[E.ST, E.ST] })
    (base : Nat) (v : Value) (l : List α) (hs : a.eval s = v) (hrow : GRow E base w v l) (c : Nat) (g : Nat) (hx : a.eval y = .slice (some ⟨g, 0, none⟩) xs.length c) (hg : Blk w g (E.cs xs).toArray) (hlen : l.length ≤ 100000000) (hxl : xs.length ≤ 1000)
    (hz : base ≤ w.heap.size)
    (h : ∀ v' w', GRow E base w' v' (l ++ xs) → w.grownBy w' v.ownBlock → wpList Tryz.prog ops Q rest (a.put o.dst v') w') : wpList Tryz.prog ops Q (o :: rest) a w := by
  obtain ⟨i0, hi, hz0, hz1, hz2⟩ := info_parts E.info
  refine wpList_append_own _ hgd s y E.ST ho base E.T i0 E.z E.sz E.bs E.und hi hz0 hz1 hz2 E.hz E.hsz v l.length _ hs hrow ⟨g, 0, none⟩ xs.length c (E.cs xs) hx (by rw [E.cs_len]) (fun j u hu => ?_) (fun u hu => ?_) (by unfold maxLen; omega) ?_ hz ?_
  · rw [Lib.add_plain, hg.cell, Nat.zero_add]
    simpa using hu
  · unfold ETy.cs at hu
    rw [List.mem_flatMap] at hu
    obtain ⟨x, _, hu⟩ := hu
    exact E.hone x u hu
  · calc (l.length + xs.length) * E.bs ≤ (l.length + xs.length) * 1000 := Nat.mul_le_mul_left _ E.hbs
      _ ≤ 140737488355328 := by omega
  intro v' w' hown' hgrow _
  refine h v' w' ?_ hgrow
  unfold GRow
  have e : E.cs (l ++ xs) = E.cs l ++ E.cs xs := by unfold ETy.cs; simp
  rw [e, List.length_append]
  exact hown'
/-- The eight texts of Escape. -/
def esc8 : List ByteArray := [⟨#[38]⟩, ⟨#[38, 97, 109, 112, 59]⟩, ⟨#[60]⟩, ⟨#[38, 108, 116, 59]⟩, ⟨#[62]⟩, ⟨#[38, 103, 116, 59]⟩, ⟨#[34]⟩, ⟨#[38, 113, 117, 111, 116, 59]⟩]
/-- A Replacer that was not used yet. -/
def RepNew (lo rp : Nat) (v : Value) (w : World) : Prop := w.heap[rp]? = some (.cells #[.int .u32 0, .int .i32 0, .int .u32 0, .nilIface, v] 111 (0, 0)) ∧ GRow StrE lo w v esc8

set_option maxRecDepth 100000 in
set_option maxHeartbeats 2000000 in
theorem newReplacer_any (g cap : Nat) (w : World) (hg : Blk w g (StrE.cs esc8).toArray) :
    Calls Tryz.prog 47 #[.slice (some ⟨g, 0, none⟩) 8 cap] w fun en w' => ∃ rp v, en = .returned (.pointer (some ⟨rp, 0, none⟩)) ∧ w.heap.size ≤ rp ∧ RepNew w.heap.size rp v w' ∧ Below w.heap.size w w' := by
  have hrow := GRow.nil StrE w.heap.size w
  have HG := Lib.hid hg
  clear hg
  go_enter Tryz.func47, Tryz.ntmps47
  go_wp2_with (at_builtin; go_must (refine wpList_more_g StrE (xs := esc8) rfl _ _ rfl w.heap.size (.slice none 0 0) [] rfl hrow _ g rfl HG.out (by simp) (by decide) (Nat.le_refl _) ?_); intro v' w6 hrow6 hg6; obtain ⟨a', n', c', rfl⟩ := hrow6.form')
  go_ret
  have hB := grown_below hg6 (Nat.le_refl _) (fun k hk => by simp [Value.ownBlock] at hk)
  have hA := (Below.refl w6.heap.size w6).alloc (Nat.le_refl _) (.cells #[.int .u32 0, .int .i32 0, .int .u32 0, .nilIface, .slice a' n' c'] 111)
  exact ⟨_, _, rfl, hB.size, ⟨push_new _ _ _ rfl, hrow6.on hA⟩, hB.trans (hA.mono hB.size)⟩
end Go.Proofs.YtnmpbphnfiiafaaGreatDoor
