/-
  What both Tokens hand back, read; many and digits.
-/
import Derived.Test.YtnmpbphnfiiafaaGreatDoorXmOn
import Derived.Test.YtnmpbphnfiiafaaGreatDoorXmW
import Derived.Test.YtnmpbphnfiiafaaGreatDoorXmZd
import Derived.Test.YtnmpbphnfiiafaaGreatDoorXmQo
namespace Go.Proofs.YtnmpbphnfiiafaaGreatDoor
section
open Go.RowKit Go.PlainAid

/-- The world's shape. -/
abbrev Gl (w : World) : Prop := Gx w
/-- What is told of a file: the error, its place, the tokens. -/
def tkE (s : ByteArray) : Int := match tokensX s with | .bad e _ => e | .ok _ _ => 0
def tkA (s : ByteArray) : Int := match tokensX s with | .bad _ a => (a : Int) | .ok _ _ => 0
def tkL (s : ByteArray) : List Tk := match tokensX s with | .bad _ _ => [] | .ok _ out => out
theorem TokEnd.read {s : ByteArray} {w w' : World} {en : Ending} (h : TokEnd s w en w') : ∃ v, en = .returned (.tuple #[v, .agg #[.int .i64 (tkE s), .int .i64 (tkA s)]]) ∧ OutAt w.heap.size w' v (tkL s) ∧ Below w.heap.size w w' := by
  unfold TokEnd at h
  unfold tkE tkA tkL
  cases hx : tokensX s with
  | bad e a =>
    rw [hx] at h
    exact ⟨_, h.1, ⟨[], GRow.nil _ _ _, rfl, fun j hj => absurd hj (by simp)⟩, h.2⟩
  | ok z out =>
    rw [hx] at h
    obtain ⟨v, h1, h2, h3⟩ := h
    exact ⟨v, h1, h2, h3⟩
theorem GRow.max {α : Type} {E : ETy α} {base : Nat} {w : World} {v : Value} {l : List α} (h : GRow E base w v l) : l.length ≤ maxLen := by
  rcases h.read with ⟨rfl, _⟩ | ⟨_, _, _, _, _, h1, h2, _⟩
  · simp
  · omega
theorem OutAt.max {lo : Nat} {w : World} {v : Value} {out : List Tk} (h : OutAt lo w v out) : out.length ≤ maxLen ∧ ∀ t ∈ out, t.attrs.length ≤ maxLen := by
  obtain ⟨ms, h1, h2, h3⟩ := h
  refine ⟨by rw [← h2]; exact h1.max, fun t ht => ?_⟩
  obtain ⟨j, hj, rfl⟩ := List.getElem_of_mem ht
  exact (h3 j (by omega) hj).attrs.max
section
set_option maxRecDepth 100000
set_option maxHeartbeats 4000000
theorem many_any (s : ByteArray) (n : Nat) (hz : s.size ≤ 100) (hn : n ≤ 10000) (w : World) : Calls Tryz.prog 17 #[.string s, .int .i64 (n : Int)] w fun e w' => (∃ t : ByteArray, e = .returned (.string t) ∧ t.size ≤ 100 * n) ∧ w = w' := by
  go_enter Tryz.func17, Tryz.ntmps17
  go_wp2_with fail
  go_loopg [5, 6] (n + 1) (fun f s5 s6 wx => ∃ (i : Nat) (t : ByteArray), s5 = .string t ∧ s6 = .int .i64 (i : Int) ∧ f + i = n + 1 ∧ i ≤ n ∧ t.size ≤ 100 * i ∧ w = wx)
  case atStart => exact ⟨0, ⟨#[]⟩, rfl, rfl, rfl, Nat.zero_le _, by decide, rfl⟩
  case round =>
    obtain ⟨i, t, rfl, rfl, hg, hi, ht, rfl⟩ := hrel
    have HG := Lib.hid hg
    have f1 : IntKind.i64.wrap ((i : Int) + 1) = (i : Int) + 1 := IntWalk.i64_in _ (by omega)
    have ht2 : t.size ≤ 1000000 := by omega
    have HT := Lib.hid ht
    clear hg ht
    by_cases hlt : i < n
    · have hI : (i : Int) < n := by omega
      have HLT := Lib.hid hlt
      clear hlt
      go_wp2_with fail
      go_roundg (n - i)
      case rel => exact ⟨i + 1, t ++ s, rfl, by simp, by have := HG.out; have := HLT.out; omega, HLT.out, by rw [ByteArray.size_append]; have := HT.out; omega, rfl⟩
      case measure => have := HG.out; have := HLT.out; omega
    · have hI : ¬ (i : Int) < n := by omega
      obtain rfl : i = n := by omega
      go_wp2_with fail
      go_ret
      exact ⟨⟨_, rfl, HT.out⟩, rfl⟩
theorem enc_size {r : Int} (h : okRune r) : 1 ≤ (Utf8.encode r).size ∧ (Utf8.encode r).size ≤ 4 := by
  rw [enc_val h]
  show 1 ≤ (Lib.encodeRune r).length ∧ (Lib.encodeRune r).length ≤ 4
  unfold Lib.encodeRune
  rw [List.length_map]
  exact Lib.encodeRuneZ_length r
theorem digits_any (n : Int) (hn : n ≤ 9223372036854775807) (h0 : -9223372036854775808 ≤ n) (w : World) : Calls Tryz.prog 18 #[.int .i64 n] w fun e w' => (∃ t : ByteArray, e = .returned (.string t) ∧ t.size ≤ 80) ∧ w = w' := by
  by_cases hneg : n < 0
  · go_enter Tryz.func18, Tryz.ntmps18
    go_wp2_with fail
    go_ret
    exact ⟨⟨_, rfl, by decide⟩, rfl⟩
  · have hneg' : ¬ n < 0 := hneg
    go_enter Tryz.func18, Tryz.ntmps18
    go_wp2_with fail
    go_loopg [0, 3] 20 (fun f s0 s3 wx => ∃ (m : Int) (t : ByteArray), s0 = .int .i64 m ∧ s3 = .string t ∧ 0 ≤ m ∧ m < 10 ^ f ∧ m ≤ 9223372036854775807 ∧ t.size + 4 * f ≤ 80 ∧ (t.size = 0 → f = 20) ∧ w = wx)
    case atStart => exact ⟨n, ⟨#[]⟩, rfl, rfl, by omega, by omega, hn, by decide, fun _ => rfl, rfl⟩
    case round =>
      obtain ⟨m, t, rfl, rfl, hm0, hm, hmx, ht, htz, rfl⟩ := hrel
      by_cases hend : m ≤ 0 ∧ t.size ≠ 0
      · have hI : ¬ (0 : Int) < m := by omega
        have hne := bytes_ne hend.2
        have HT := Lib.hid ht
        clear htz hm ht hend
        go_wp2_with fail
        go_ret
        exact ⟨⟨_, rfl, by have := HT.out; omega⟩, rfl⟩
      · obtain ⟨k', hk'⟩ : ∃ k, gk = k + 1 := by
          cases hgk : gk with
          | zero =>
            exfalso
            rw [hgk] at hm htz
            have : t.size ≠ 0 := fun e => by have := htz e; omega
            exact hend ⟨by simp at hm; omega, this⟩
          | succ k => exact ⟨k, rfl⟩
        have HK := Lib.hid (And.intro hk' (And.intro hm ht))
        have hes := enc_size (r := 48 + m % 10) (by unfold okRune; omega)
        have ht2 : t.size ≤ 80 := by omega
        have HES := Lib.hid hes
        have hes2 := hes.2
        have hdv : 0 ≤ m / 10 ∧ m / 10 ≤ 9223372036854775807 ∧ m / 10 < 10 ^ k' := by
          rw [hk'] at hm
          rw [Int.pow_succ] at hm
          refine ⟨by omega, by omega, ?_⟩
          generalize (10 : Int) ^ k' = Q at hm
          omega
        have HDV := Lib.hid hdv
        clear hes hdv
        by_cases hm1 : 0 < m
        · clear hk' hm ht htz hend
          go_wp2_with fail
          go_roundg k'
          case rel => exact ⟨m / 10, _, rfl, rfl, HDV.out.1, HDV.out.2.2, HDV.out.2.1, by rw [ByteArray.size_append]; have := HK.out; have := HES.out; omega, fun e => by rw [ByteArray.size_append] at e; have := HES.out; omega, rfl⟩
          case measure => have := HK.out; omega
        · have h0 : t.size = 0 := by
            by_cases h : t.size = 0
            · exact h
            · exact absurd ⟨by omega, h⟩ hend
          have hnil := bytes_nil h0
          obtain rfl : m = 0 := by omega
          have hes3 := enc_size (r := 48) (by unfold okRune; omega)
          have HES3 := Lib.hid hes3
          have hes4 := hes3.2
          clear hk' hm ht htz hend hes2 hes3 h0
          go_wp2_with fail
          go_roundg k'
          case rel => exact ⟨0, _, rfl, rfl, by decide, by have := HDV.out.2.2; simpa using this, by decide, by rw [ByteArray.size_append]; have := HK.out; have := HES3.out; omega, fun e => by rw [ByteArray.size_append] at e; have := HES3.out; omega, rfl⟩
          case measure => have := HK.out; omega
end
end

section
open Go.RowKit Go.PlainAid

def unE (s : ByteArray) : Int := match unescX s with | .bad e _ => e | .ok _ _ => 0
def unA (s : ByteArray) : Int := match unescX s with | .bad _ a => (a : Int) | .ok _ _ => 0
def unB (s : ByteArray) : ByteArray := match unescX s with | .bad _ _ => ⟨#[]⟩ | .ok _ b => b
theorem UnEnd.read {s : ByteArray} {w w' : World} {en : Ending} (h : UnEnd s w en w') : en = .returned (.tuple #[.string (unB s), .agg #[.int .i64 (unE s), .int .i64 (unA s)]]) ∧ Below w.heap.size w w' := by
  unfold UnEnd at h
  unfold unE unA unB
  cases hx : unescX s with
  | bad e a => rw [hx] at h; exact h
  | ok z out => rw [hx] at h; exact h
theorem idx_two0 (A B : ByteArray) (w : World) : (Instr.index 41 (.agg #[.string A, .string B]) (.int .i64 0)).run Tryz.prog w = .ok (.string A) w := by kernel_rfl
theorem idx_two1 (A B : ByteArray) (w : World) : (Instr.index 41 (.agg #[.string A, .string B]) (.int .i64 1)).run Tryz.prog w = .ok (.string B) w := by kernel_rfl
section
set_option maxRecDepth 100000
set_option maxHeartbeats 8000000
/-- The two Tokens, as contracts that tell the same. -/
theorem xtok_read (s : ByteArray) (w : World) (hG : Gx w) : Calls Tryz.prog 14 #[.string s] w fun en w' => ∃ v, en = .returned (.tuple #[v, .agg #[.int .i64 (tkE s), .int .i64 (tkA s)]]) ∧ OutAt w.heap.size w' v (tkL s) ∧ Below w.heap.size w w' := (tokens_any s w hG).mono fun _ _ h => h.read
theorem rtok_read (s : ByteArray) (w : World) : Calls Tryz.prog 13 #[.string s] w fun en w' => ∃ v, en = .returned (.tuple #[v, .agg #[.int .i64 (tkE s), .int .i64 (tkA s)]]) ∧ OutAt w.heap.size w' v (tkL s) ∧ Below w.heap.size w w' := (rTokens_any s w).mono fun _ _ h => h.read
theorem both_use {X : ByteArray} {W : World} {Q : Ending → World → Prop} (hG : Gx W) (h : ∀ (E A : Int) (L : List Tk), Go.RowKit.Hid (∀ W, Calls Tryz.prog 13 #[.string X] W fun en w' => ∃ v, en = .returned (.tuple #[v, .agg #[.int .i64 E, .int .i64 A]]) ∧ OutAt W.heap.size w' v L ∧ Below W.heap.size W w') → ∀ v w2, OutAt W.heap.size w2 v L → Below W.heap.size W w2 → Q (.returned (.tuple #[v, .agg #[.int .i64 E, .int .i64 A]])) w2) : Calls Tryz.prog 14 #[.string X] W Q :=
  (xtok_read X W hG).mono fun en w2 ⟨v, he, hO, hB⟩ => by
    rw [he]
    exact h _ _ _ (Lib.hid fun W => rtok_read X W) v w2 hO hB
theorem OutAt.on {lo : Nat} {w w' : World} {v : Value} {out : List Tk} (h : OutAt lo w v out) (hB : Below w.heap.size w w') : OutAt lo w' v out := by
  have hown := h.own
  refine h.later (fun g hg => ?_) (fun g c _ hc => hB.block g (lt_some hc))
  obtain ⟨_, c, hc⟩ := hown g hg
  exact hB.block g (lt_some hc)
end
end
end Go.Proofs.YtnmpbphnfiiafaaGreatDoor
