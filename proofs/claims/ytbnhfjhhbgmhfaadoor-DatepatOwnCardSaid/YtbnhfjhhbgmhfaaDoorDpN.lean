/-
  Patterns of dates: Of, the program's and the reference's.
-/
import Derived.Test.YtbnhfjhhbgmhfaaDoorDpH
namespace Go.Proofs.YtbnhfjhhbgmhfaaDoor
open Go.RowKit Go.PlainAid

theorem findR_some {l : List PF} {r : Nat} {x : PF} (h : findR l r = some x) : x ∈ l ∧ rankB x.1 = r := by
  unfold findR at h
  refine ⟨List.mem_of_find?_eq_some h, ?_⟩
  have := List.find?_some h
  simpa using this
theorem plain_range (b : Int) (h0 : 0 ≤ b) (h1 : b ≤ 255) : 0 ≤ plainB b ∧ plainB b ≤ 255 := by
  unfold plainB
  repeat' split
  all_goals omega
theorem ofN_sk {l : List PF} (h : PFin l) : ∀ r, ∀ x ∈ ofN l r, x.2.2 = ⟨#[]⟩ ∧ 0 ≤ x.1 ∧ x.1 ≤ 255 ∧ rankB x.1 ≠ 0 ∧ 1 ≤ x.2.1 ∧ x.2.1 ≤ 64
  | 0, x, hx => absurd hx (by simp [ofN])
  | r + 1, x, hx => by
    have hx' : x ∈ ofN l r ++ ofOne l (r + 1) := hx
    rcases List.mem_append.1 hx' with hx | hx
    · exact ofN_sk h r x hx
    · unfold ofOne at hx
      by_cases h8 : r + 1 = 8
      · rw [if_pos h8] at hx
        exact absurd hx (by simp)
      · rw [if_neg h8] at hx
        cases hf : findR l (r + 1) with
        | none => rw [hf] at hx; exact absurd hx (by simp)
        | some y =>
          rw [hf] at hx
          have hx : x = (plainB y.1, y.2.1, ⟨#[]⟩) := by simpa using hx
          obtain ⟨hm, hr⟩ := findR_some hf
          obtain ⟨h1, h2, h3, _⟩ := h.2 y hm
          have hc := fldB_count h1
          have h0 : y.1 ≠ 0 := fun e => by rw [e] at hr; have : rankB 0 = 0 := rfl; omega
          have hp := plain_range y.1 h2 h3
          subst hx
          refine ⟨rfl, hp.1, hp.2, ?_, (hc.2.2.2 h0).2.2, by have := hc.2.1; simp only; omega⟩
          simp only
          rw [rank_plain, hr]
          omega
theorem ofL_sk {l : List PF} (h : PFin l) : PSk (ofL l) := ⟨by have := ofN_len l 13; unfold ofL; omega, ofN_sk h 13⟩
/-- What Of hands back. -/
def dpOf (l : List PF) : ByteArray × Int := if (dpPrint l).2 = 0 then (printT (ofL l), 0) else (⟨#[]⟩, (dpPrint l).2)
theorem dpPrint_ok {l : List PF} (h : (dpPrint l).2 = 0) : mayB l = true := by
  unfold dpPrint at h
  by_cases hm : mayB l = true
  · exact hm
  · rw [if_neg hm] at h
    cases h

set_option maxRecDepth 100000 in
set_option maxHeartbeats 2000000 in
theorem dOf_any (v : Value) (l : List PF) (w : World) (hv : PFAt w v l) (hsz : PFsz l) (hG : Gl w) :
    Calls Tryd.prog 16 #[v] w fun e w' => e = .returned (.tuple #[.string (dpOf l).1, .int .i64 (dpOf l).2]) ∧ Below w.heap.size w w' := by
  have hpr := dprint_any v l w hv hsz hG
  have HV := Lib.hid hv
  by_cases h0 : (dpPrint l).2 = 0
  · have hin := hsz.fin (dpPrint_ok h0)
    have hr : dpOf l = (printT (ofL l), 0) := if_pos h0
    have hsk := ofL_sk hin
    have hof := fun W h => of_any v l W h
    have hfm := fun u W h => form_any u (ofL l) W h hsk
    have hll := hsk.1
    rw [hr]
    rw [h0] at hpr
    obtain ⟨a, cap, rfl, _⟩ := hv
    have HFM := Lib.hid hfm
    have HOF := Lib.hid hof
    clear hr hin hfm h0 hof hsk
    go_enter Tryd.func16, Tryd.ntmps16
    go_wp2_with fail
    refine hpr.mono ?_
    rintro e w1 ⟨rfl, hB1⟩
    go_wp2_with fail
    refine (HOF.out _ (HV.out.later hB1)).mono ?_
    rintro e w2 ⟨u, rfl, hrow, hB2⟩
    have hat := hrow.at (by omega)
    have hB := hB1.trans (hB2.mono hB1.size)
    go_wp2_with fail
    refine (HFM.out _ _ hat).mono ?_
    rintro e w3 ⟨rfl, hB3⟩
    go_wp2_with fail
    go_ret2
    exact ⟨rfl, hB.trans (hB3.mono hB.size)⟩
  · have hr : dpOf l = (⟨#[]⟩, (dpPrint l).2) := if_neg h0
    rw [hr]
    generalize (dpPrint l).1 = P at *
    generalize (dpPrint l).2 = E at *
    have hE : (E != 0) = true := by simpa using h0
    obtain ⟨a, cap, rfl, _⟩ := hv
    clear hr h0
    go_enter Tryd.func16, Tryd.ntmps16
    go_wp2_with fail
    refine hpr.mono ?_
    rintro e w1 ⟨rfl, hB1⟩
    go_wp2_with fail
    go_ret2
    exact ⟨rfl, hB1⟩

set_option maxRecDepth 100000 in
set_option maxHeartbeats 4000000 in
theorem rOf_any (v : Value) (l : List PF) (w : World) (hv : PFAt w v l) (hok : PFok l) :
    Calls Tryd.prog 19 #[v] w fun e w' => ∃ v', e = .returned v' ∧ PFRow w.heap.size w' v' (ofL l) ∧ Below w.heap.size w w' := by
  have hv0 := Lib.hid hv
  have HOK := Lib.hid hok
  obtain ⟨a, cap, rfl, hlen, hc⟩ := hv
  have HC := Lib.hid hc
  clear hc hok
  go_enter Tryd.func19, Tryd.ntmps19
  go_wp2_with fail
  go_loopg [3, 4] 13 (fun g s3 s4 wr => ∃ (r : Nat), r + g = 13 ∧ s4 = .int .i64 ((r : Int) + 1) ∧ PFRow w.heap.size wr s3 (ofN l r) ∧ Below w.heap.size w wr)
  case atStart => exact ⟨0, rfl, rfl, PFRow.nil _ _, Below.refl _ _⟩
  case round =>
    obtain ⟨r, hg, rfl, hrow, hB⟩ := hrel
    have hzB := hB.size
    by_cases hr : r < 13
    · have hix := rFind_any (.slice a l.length cap) l (r + 1) (by omega) wr (hv0.out.later hB) HOK.out
      have hix2 : Calls Tryd.prog 49 #[.slice a l.length cap, .int .i64 ((r : Int) + 1)] wr fun e w' => FoundI l (r + 1) e ∧ w' = wr := by
        have h := hix
        push_cast at h
        exact h
      have hrI : (r : Int) + 1 ≤ 13 := by omega
      clear hix
      have hof : ofN l (r + 1) = ofN l r ++ ofOne l (r + 1) := rfl
      have HOF := Lib.hid hof
      clear hof
      go_wp2_with fail
      refine hix2.mono ?_
      rintro e w1 ⟨⟨k, rfl, hfk⟩, rfl⟩
      rcases hfk with ⟨rfl, hfn⟩ | ⟨n, hn, rfl, hfn⟩
      · have ho : ofN l (r + 1) = ofN l r := by rw [HOF.out]; unfold ofOne; split <;> simp [hfn]
        have HO := Lib.hid ho
        clear ho hfn
        go_wp2_with fail
        go_roundg (gk - 1)
        case rel => exact ⟨r + 1, by omega, by push_cast; rfl, by rw [HO.out]; exact hrow, hB⟩
        case measure => omega
      · by_cases h8 : r + 1 = 8
        · have ho : ofN l (r + 1) = ofN l r := by rw [HOF.out, h8]; simp [ofOne]
          have HO := Lib.hid ho
          have h8I : ((r : Int) + 1 != 8) = false := by simp; omega
          clear ho hfn h8
          go_wp2_with fail
          go_roundg (gk - 1)
          case rel => exact ⟨r + 1, by omega, by push_cast; rfl, by rw [HO.out]; exact hrow, hB⟩
          case measure => omega
        · have ho : ofN l (r + 1) = ofN l r ++ [(plainB l[n].1, l[n].2.1, ⟨#[]⟩)] := by rw [HOF.out]; unfold ofOne; rw [if_neg h8, hfn]
          have HO := Lib.hid ho
          have hfs := (findR_some hfn).2
          have hx := HOK.out l[n] (List.getElem_mem hn)
          have h8I : ((r : Int) + 1 != 8) = true := by simp; omega
          have hnI : (0 : Int) ≤ n := by omega
          have hnl : (n : Int) < l.length := by omega
          obtain ⟨g, off, rfl, hgw, p0, p1, _⟩ := HC.out n hn
          generalize l[n] = x at *
          obtain ⟨b, c, t⟩ := x
          simp only at p0 p1 HO hfs hx
          have hpl := fun W => rPlain_any b hx.1 hx.2.1 (by omega) (by omega) W
          have q0 := (hB.cell (p := ⟨g, _, none⟩) hgw).trans p0
          have q1 := (hB.cell (p := ⟨g, _, none⟩) hgw).trans p1
          have hll := ofN_len l r
          have hrow2 : PFRow w.heap.size w1.drew u3 (ofN l r) := hrow
          have hB3 : Below w.heap.size w w1.drew := hB.drew
          have hz3 : w.heap.size ≤ w1.drew.heap.size := hzB
          clear ho hfn h8 p0 p1 hfs hx
          go_upto_region 7 with fail
          go_region_law (first | (refine step_snoc_pf (x := (plainB b, c, ⟨#[]⟩)) rfl _ _ rfl w.heap.size u3 (ofN l r) rfl hrow2 _ rfl rfl (by omega) hB3 (Nat.le_refl _) hz3 ?_; intro v' w2 hrow4 hB4 hkeep) | (go_simp; go_at_call 50; refine (hpl _).mono ?_; rintro e w' ⟨rfl, rfl⟩))
          all_goals
            clear hkeep
            go_wp2_with fail
            go_roundg (gk - 1)
            case rel => exact ⟨r + 1, by omega, by push_cast; rfl, by rw [HO.out]; exact hrow4, hB4⟩
            case measure => omega
    · have hrI : ¬ (r : Int) + 1 ≤ 13 := by omega
      have hre : r = 13 := by omega
      subst hre
      go_wp2_with fail
      go_ret
      exact ⟨_, rfl, hrow, hB⟩
end Go.Proofs.YtbnhfjhhbgmhfaaDoor
