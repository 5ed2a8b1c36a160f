/-
  Rules for numbers: what Parse hands back, in the forms that the laws ask.
-/
import Derived.Test.YtgbemhehbhlgpaaGreatDoorPlBackW
namespace Go.Proofs.YtgbemhehbhlgpaaGreatDoor
open Go.RowKit Go.PlainAid

/-- What Parse hands back of a text that is not too long. -/
theorem parse_short (s : ByteArray) (w : World) (hs : s.size ≤ 4096) (hP : PG w) :
    Calls Tryz.prog 25 #[.string s] w fun e w' => ((∃ q : Nat, ruleP s = .bad q ∧ e = .returned (.tuple #[.pointer none, .agg #[.int .i64 250, .int .i64 (q : Int)]])) ∨
      (∃ v p rows t, e = .returned (.tuple #[v, .agg #[.int .i64 0, .int .i64 0]]) ∧ ruleP s = .ok p rows t ∧ RuleAt w' v t rows)) ∧ Below w.heap.size w w' :=
  (parse_all s w hP).mono fun e w' ⟨h, hB⟩ => ⟨by
    rcases h with ⟨er, at_, _, h1, h2⟩ | ⟨_, h⟩
    · rcases h2 with ⟨_, _, h2⟩ | ⟨rfl, _, q, rfl, h2⟩
      · omega
      · exact .inl ⟨q, h2, h1⟩
    · exact .inr h, hB⟩
/-- What Parse hands back, with its error. -/
theorem parse_tup (s : ByteArray) (w : World) (hP : PG w) :
    Calls Tryz.prog 25 #[.string s] w fun e w' => (∃ v er at_, e = .returned (.tuple #[v, .agg #[.int .i64 er, .int .i64 at_]]) ∧ ((er == 0) = false ∨ (er = 0 ∧ at_ = 0 ∧ s.size ≤ 4096 ∧ ∃ p rows t, ruleP s = .ok p rows t ∧ RuleAt w' v t rows))) ∧ Below w.heap.size w w' :=
  (parse_all s w hP).mono fun e w' ⟨h, hB⟩ => ⟨by
    rcases h with ⟨er, at_, h0, h1, _⟩ | ⟨hs, v, p, rows, t, h1, h2, h3⟩
    · exact ⟨_, _, _, h1, .inl (by simpa using h0)⟩
    · exact ⟨_, _, _, h1, .inr ⟨rfl, rfl, hs, p, rows, t, h2, h3⟩⟩, hB⟩
theorem parse_is {s : ByteArray} {p : Nat} {rows : List (List Rl)} {t : ByteArray} (h : ruleP s = .ok p rows t) (w : World) (hs : s.size ≤ 4096) (hP : PG w) :
    Calls Tryz.prog 25 #[.string s] w fun e w' => (∃ v, e = .returned (.tuple #[v, .agg #[.int .i64 0, .int .i64 0]]) ∧ RuleOn w.heap.size w' v t rows) ∧ Below w.heap.size w w' :=
  (parse_any s w hs hP).mono fun e w' ⟨h1, hB⟩ => ⟨by rw [h] at h1; exact h1, hB⟩
end Go.Proofs.YtgbemhehbhlgpaaGreatDoor
