/-
  Patterns of dates: letters that stand for their like, the first field of a rank, the one form of a skeleton.
-/
import Derived.Test.YtbnhfjhhbgmhfaaDoorDpF
namespace Go.Proofs.YtbnhfjhhbgmhfaaDoor
open Go.RowKit Go.PlainAid

set_option maxRecDepth 100000 in
set_option maxHeartbeats 2000000 in
theorem plain_any (b : Int) (w : World) :
    Calls Tryd.prog 72 #[.int .u8 b] w fun e w' => e = .returned (.int .u8 (plainB b)) ∧ w' = w := by
  go_enter Tryd.func72, Tryd.ntmps72
  go_wp2
  all_goals (go_ret; refine ⟨ret_int ?_, rfl⟩; unfold plainB; simp_all)
theorem plain_byte : ∀ b : Fin 256, rankB (b.val : Int) ≠ 0 → rankB (b.val : Int) ≠ 8 → rankB (b.val : Int) ≠ 9 → 0 < (lettersS (rankB (b.val : Int))).size ∧ bt (lettersS (rankB (b.val : Int))) 0 = plainB (b.val : Int) := by decide +kernel
theorem plain_nine : ∀ b : Fin 256, rankB (b.val : Int) = 9 → plainB (b.val : Int) = if (b.val : Int) = 75 then 104 else if (b.val : Int) = 107 then 72 else (b.val : Int) := by decide +kernel

set_option maxRecDepth 100000 in
set_option maxHeartbeats 2000000 in
theorem rPlain_any (b : Int) (h0 : 0 ≤ b) (h1 : b ≤ 255) (hr : rankB b ≠ 0) (hr8 : rankB b ≠ 8) (w : World) :
    Calls Tryd.prog 50 #[.int .u8 b] w fun e w' => e = .returned (.int .u8 (plainB b)) ∧ w' = w := by
  have hRQ := fun W => rRank_q b h0 h1 W
  have hle := rankB_le b
  have hp := plain_byte ⟨b.toNat, by omega⟩
  have hq := plain_nine ⟨b.toNat, by omega⟩
  simp only [Int.toNat_of_nonneg h0] at hp hq
  by_cases h9 : rankB b = 9
  · have hq := hq h9
    have h9I : ((rankB b : Int) == 9) = true := by simp [h9]
    have HQ := Lib.hid hq
    clear hp hq h9
    go_enter Tryd.func50, Tryd.ntmps50
    go_wp2_with fail
    refine (hRQ _).mono ?_
    rintro e w' ⟨rfl, rfl⟩
    go_wp2_with fail
    all_goals (go_ret; refine ⟨ret_int ?_, rfl⟩; rw [HQ.out]; simp_all)
  · obtain ⟨hz, hb⟩ := hp hr hr8 h9
    have hl := fun W => letters_any (rankB b) (by omega) hle W
    have h9I : ((rankB b : Int) == 9) = false := by simp; omega
    have hb0 : (((lettersS (rankB b))[0]'hz).toNat : Int) = bt (lettersS (rankB b)) 0 := by unfold bt; rw [dif_pos hz]
    rw [hb] at hb0
    generalize lettersS (rankB b) = L at *
    clear hq hb h9
    go_enter Tryd.func50, Tryd.ntmps50
    go_wp2_with fail
    refine (hRQ _).mono ?_
    rintro e w' ⟨rfl, rfl⟩
    go_wp2_with fail
    refine (hl _).mono ?_
    rintro e w1 ⟨rfl, rfl⟩
    go_wp2_with fail
    go_ret
    exact ⟨rfl, rfl⟩

/-- The place of the first field of a rank; -1: there is none. -/
def FindAt (l : List PF) (r : Nat) (k : Int) : Prop := (k = -1 ∧ findR l r = none) ∨ ∃ (n : Nat) (h : n < l.length), k = n ∧ findR l r = some l[n]
def FoundI (l : List PF) (r : Nat) (e : Ending) : Prop := ∃ k, e = .returned (.int .i64 k) ∧ FindAt l r k
theorem find_drop {l : List PF} {r i : Nat} (h : i < l.length) : findR (l.drop i) r = if rankB l[i].1 == r then some l[i] else findR (l.drop (i + 1)) r := by
  unfold findR
  rw [List.drop_eq_getElem_cons h, List.find?_cons]
  cases rankB l[i].1 == r <;> rfl

set_option maxRecDepth 100000 in
set_option maxHeartbeats 2000000 in
theorem idxf_any (g : Nat) (lb : Array Value) (eg : ∀ args w, (callFunc g args).run Tryd.prog w = .ok (.enter g args) w) (v : Value) (l : List PF) (r : Nat) (w : World) (hv : PFAt w v l)
    (hp : ∀ (W : World) (x : PF), x ∈ l → Below w.heap.size w W → Calls Tryd.prog g (#[.agg #[.int .u8 x.1, .int .i64 x.2.1, .string x.2.2]] ++ lb) W fun e w' => e = .returned (.bool (rankB x.1 == r)) ∧ Below W.heap.size W w') :
    Calls Tryd.prog 70 #[v, .func (.func g) #[] lb] w fun e w' => FoundI l r e ∧ Below w.heap.size w w' := by
  obtain ⟨a, cap, rfl, hlen, hc⟩ := hv
  have HC := Lib.hid hc
  have HP := Lib.hid hp
  clear hc hp
  go_enter Tryd.func70, Tryd.ntmps70
  go_wp2_with fail
  go_loopg [8] l.length (fun gg s8 wr => ∃ i : Nat, s8 = .int .i64 (i : Int) ∧ i + gg = l.length ∧ findR l r = findR (l.drop i) r ∧ Below w.heap.size w wr)
  case atStart => exact ⟨0, rfl, by omega, rfl, Below.refl _ _⟩
  case round =>
    obtain ⟨i, rfl, hg, hm, hB⟩ := hrel
    by_cases hi : i < l.length
    · have hst := find_drop (r := r) hi
      rw [← hm] at hst
      have HST := Lib.hid hst
      obtain ⟨gb, off, rfl, hgw, h0, h1, h2⟩ := HC.out i hi
      have cS := HP.out wr l[i] (List.getElem_mem hi) hB
      have hli : l[i] = l[i] := rfl
      have hres : ∀ x, x = l[i] → (rankB x.1 == r) = true → FindAt l r i := fun x hx hb => .inr ⟨i, hi, rfl, by rw [HST.out, ← hx, if_pos hb]⟩
      have hnex : ∀ x, x = l[i] → (rankB x.1 == r) = false → findR l r = findR (l.drop (i + 1)) r := fun x hx hb => by rw [HST.out, ← hx, if_neg (by rw [hb]; decide)]
      generalize hx : l[i] = x at h0 h1 h2 cS
      have hres := hres x hx.symm
      have hnex := hnex x hx.symm
      obtain ⟨b, c, t⟩ := x
      simp only at h0 h1 h2 hres hnex cS
      have d0 := (hB.cell (p := ⟨gb, _, none⟩) hgw).trans h0
      have d1 := (hB.cell (p := ⟨gb, _, none⟩) hgw).trans h1
      have d2 := (hB.cell (p := ⟨gb, _, none⟩) hgw).trans h2
      have hgr : gb < wr.heap.size := by have := hB.size; omega
      have hiI : (i : Int) < l.length := by omega
      clear hm hst h0 h1 h2 hx hli
      cases hb : rankB b == r with
      | true =>
        rw [hb] at cS
        have HRES := Lib.hid (hres hb)
        clear hres hnex hb
        go_wp2_with (go_at_fn g; refine cS.mono ?_; rintro e W' ⟨rfl, hbc⟩)
        go_ret
        exact ⟨⟨_, rfl, HRES.out⟩, hB.trans (hbc.mono hB.size)⟩
      | false =>
        rw [hb] at cS
        have HN := Lib.hid (hnex hb)
        clear hres hnex hb
        go_wp2_with (go_at_fn g; refine cS.mono ?_; rintro e W' ⟨rfl, hbc⟩)
        go_roundg (gk - 1)
        case rel => exact ⟨i + 1, by push_cast; rfl, by omega, HN.out, hB.trans (hbc.mono hB.size)⟩
        case measure => omega
    · have hend : FindAt l r (-1) := .inl ⟨rfl, by rw [hm, List.drop_eq_nil_of_le (by omega)]; rfl⟩
      have HE := Lib.hid hend
      have hiI : ¬ (i : Int) < l.length := by omega
      clear hend hm
      go_wp2_with fail
      go_ret
      exact ⟨⟨_, rfl, HE.out⟩, hB⟩

set_option maxRecDepth 100000 in
set_option maxHeartbeats 2000000 in
theorem of1_any (x : PF) (rb r : Nat) (hr : 1 ≤ r) (w : World) (hc : w.cell? ⟨rb, 0, none⟩ = some (.int .i64 r)) :
    Calls Tryd.prog 71 #[.agg #[.int .u8 x.1, .int .i64 x.2.1, .string x.2.2], .pointer (some ⟨rb, 0, none⟩)] w fun e w' => e = .returned (.bool (rankB x.1 == r)) ∧ Below w.heap.size w w' := by
  obtain ⟨b, c, t⟩ := x
  have hB := (Below.refl w.heap.size w).alloc (Nat.le_refl _) (.cells #[.int .u8 b, .int .i64 c, .string t] 43)
  have hc2 := cell_later hc hB
  have hrb := World.block_lt_of_cell? w ⟨rb, 0, none⟩ hc
  have hne : rb ≠ w.heap.size := by intro e; simp only at hrb; omega
  have kb := Blk.new w #[.int .u8 b, .int .i64 c, .string t] 43
  have k0 := kb.cell 0
  simp at k0
  by_cases hb : b = 0
  · have hbe : (b != 0) = false := by simp [hb]
    have hres : (rankB b == r) = false := by rw [hb]; have : rankB 0 = 0 := rfl; rw [this]; simp; omega
    have HRES := Lib.hid hres
    clear hb hres
    go_enter Tryd.func71, Tryd.ntmps71
    go_wp2_with fail
    go_quiet (fail)
    have hBn := bdrN hB nq
    go_wp2_with fail
    go_ret
    exact ⟨ret_bool HRES.out.symm, hBn⟩
  · have hbe : (b != 0) = true := by simpa using hb
    have hrI : ((rankB b : Int) == (r : Int)) = (rankB b == r) := by rw [Bool.eq_iff_iff]; simp only [beq_iff_eq]; omega
    generalize (rankB b == r) = q at *
    clear hb
    go_enter Tryd.func71, Tryd.ntmps71
    go_wp2_with fail
    go_quiet ((go_at_call 23; exact Calls.quiet_of_same (rank_q _ _)))
    have hBn := bdrN hB nq
    go_wp2_with fail
    go_ret
    exact ⟨rfl, hBn⟩
set_option maxRecDepth 100000 in
set_option maxHeartbeats 2000000 in
theorem apart1_any (x : PF) (rb r : Nat) (w : World) (hc : w.cell? ⟨rb, 0, none⟩ = some (.int .i64 r)) :
    Calls Tryd.prog 73 #[.agg #[.int .u8 x.1, .int .i64 x.2.1, .string x.2.2], .pointer (some ⟨rb, 0, none⟩)] w fun e w' => e = .returned (.bool (rankB x.1 == r)) ∧ Below w.heap.size w w' := by
  obtain ⟨b, c, t⟩ := x
  have hB := (Below.refl w.heap.size w).alloc (Nat.le_refl _) (.cells #[.int .u8 b, .int .i64 c, .string t] 43)
  have hc2 := cell_later hc hB
  have hrb := World.block_lt_of_cell? w ⟨rb, 0, none⟩ hc
  have hne : rb ≠ w.heap.size := by intro e; simp only at hrb; omega
  have kb := Blk.new w #[.int .u8 b, .int .i64 c, .string t] 43
  have k0 := kb.cell 0
  simp at k0
  have hrI : ((rankB b : Int) == (r : Int)) = (rankB b == r) := by rw [Bool.eq_iff_iff]; simp only [beq_iff_eq]; omega
  generalize (rankB b == r) = q at *
  go_enter Tryd.func73, Tryd.ntmps73
  go_wp2_with fail
  go_quiet ((go_at_call 23; exact Calls.quiet_of_same (rank_q _ _)))
  have hBn := bdrN hB nq
  go_wp2_with fail
  go_ret
  exact ⟨rfl, hBn⟩

set_option maxRecDepth 100000 in
set_option maxHeartbeats 2000000 in
theorem rFind_any (v : Value) (l : List PF) (r : Nat) (hr : 1 ≤ r) (w : World) (hv : PFAt w v l) (hok : PFok l) :
    Calls Tryd.prog 49 #[v, .int .i64 r] w fun e w' => FoundI l r e ∧ w' = w := by
  obtain ⟨a, cap, rfl, hlen, hc⟩ := hv
  have HC := Lib.hid hc
  have HOK := Lib.hid hok
  clear hc hok
  go_enter Tryd.func49, Tryd.ntmps49
  go_wp2_with fail
  go_loopg [5] l.length (fun gg s5 wr => ∃ i : Nat, s5 = .int .i64 (i : Int) ∧ i + gg = l.length ∧ findR l r = findR (l.drop i) r ∧ wr = w)
  case atStart => exact ⟨0, rfl, by omega, rfl, rfl⟩
  case round =>
    obtain ⟨i, rfl, hg, hm, rfl⟩ := hrel
    by_cases hi : i < l.length
    · have hst := find_drop (r := r) hi
      rw [← hm] at hst
      have HST := Lib.hid hst
      obtain ⟨gb, off, rfl, hgw, h0, h1, h2⟩ := HC.out i hi
      have hx := HOK.out l[i] (List.getElem_mem hi)
      have hres : ∀ x, x = l[i] → (rankB x.1 == r) = true → FindAt l r i := fun x hx hb => .inr ⟨i, hi, rfl, by rw [HST.out, ← hx, if_pos hb]⟩
      have hnex : ∀ x, x = l[i] → (rankB x.1 == r) = false → findR l r = findR (l.drop (i + 1)) r := fun x hx hb => by rw [HST.out, ← hx, if_neg (by rw [hb]; decide)]
      generalize he : l[i] = x at h0 h1 h2 hx
      have hres := hres x he.symm
      have hnex := hnex x he.symm
      obtain ⟨b, c, t⟩ := x
      simp only at h0 h1 h2 hres hnex hx
      have hRQ := fun W => rRank_q b hx.1 hx.2.1 W
      have hiI : (i : Int) < l.length := by omega
      have hrI : ((rankB b : Int) == (r : Int)) = (rankB b == r) := by rw [Bool.eq_iff_iff]; simp only [beq_iff_eq]; omega
      clear hm hst he
      by_cases hb0 : b = 0
      · have hbe : (b != 0) = false := by simp [hb0]
        have hq : (rankB b == r) = false := by rw [hb0]; have : rankB 0 = 0 := rfl; rw [this]; simp; omega
        have HN := Lib.hid (hnex hq)
        clear hres hnex hq hb0 hrI
        go_wp2_with fail
        go_roundg (gk - 1)
        case rel => exact ⟨i + 1, by push_cast; rfl, by omega, HN.out, rfl⟩
        case measure => omega
      · have hbe : (b != 0) = true := by simpa using hb0
        clear hb0
        cases hb : rankB b == r with
        | true =>
          rw [hb] at hrI
          have HRES := Lib.hid (hres hb)
          clear hres hnex hb
          go_wp2_with fail
          refine (hRQ _).mono ?_
          rintro e w1 ⟨rfl, rfl⟩
          go_wp2_with fail
          go_ret
          exact ⟨⟨_, rfl, HRES.out⟩, rfl⟩
        | false =>
          rw [hb] at hrI
          have HN := Lib.hid (hnex hb)
          clear hres hnex hb
          go_wp2_with fail
          refine (hRQ _).mono ?_
          rintro e w1 ⟨rfl, rfl⟩
          go_wp2_with fail
          go_roundg (gk - 1)
          case rel => exact ⟨i + 1, by push_cast; rfl, by omega, HN.out, rfl⟩
          case measure => omega
    · have hend : FindAt l r (-1) := .inl ⟨rfl, by rw [hm, List.drop_eq_nil_of_le (by omega)]; rfl⟩
      have HE := Lib.hid hend
      have hiI : ¬ (i : Int) < l.length := by omega
      clear hend hm
      go_wp2_with fail
      go_ret
      exact ⟨⟨_, rfl, HE.out⟩, rfl⟩
end Go.Proofs.YtbnhfjhhbgmhfaaDoor
