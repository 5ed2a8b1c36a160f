/-
  XmlTokens: the spoil and the walk.
-/
import Derived.Test.YtnmpbphnfiiafaaGreatDoorXmZn
namespace Go.Proofs.YtnmpbphnfiiafaaGreatDoor
section
open Go.RowKit Go.PlainAid

/-- Below lo all is as it was; from lo on each block is of its old kind and size, and the cells of b that C names hold what they held. -/
structure Spt (lo b : Nat) (C : Nat → Prop) (w w' : World) : Prop where
  os : w'.os = w.os
  tape : w'.tape = w.tape
  output : w'.output = w.output
  size : w'.heap.size = w.heap.size
  low : ∀ k : Nat, k < lo → w'.heap[k]? = w.heap[k]?
  kind : ∀ (k : Nat) (cs : Array Value) (T : TypeId), w.heap[k]? = some (.cells cs T (0, 0)) → ∃ cs' : Array Value, w'.heap[k]? = some (.cells cs' T (0, 0)) ∧ cs'.size = cs.size
  keep : ∀ o : Nat, C o → w'.cell? ⟨b, o, none⟩ = w.cell? ⟨b, o, none⟩
theorem Spt.refl (lo b : Nat) (C : Nat → Prop) (w : World) : Spt lo b C w w := ⟨rfl, rfl, rfl, rfl, fun _ _ => rfl, fun _ cs _ h => ⟨cs, h, rfl⟩, fun _ _ => rfl⟩
theorem Spt.set {lo b : Nat} {C : Nat → Prop} {w w' : World} (h : Spt lo b C w w') (k o : Nat) (u : Value) (hk : lo ≤ k) (hC : k = b → ¬ C o) : Spt lo b C w (w'.setCell ⟨k, o, none⟩ u) := by
  refine ⟨h.os, h.tape, h.output, by simpa [World.setCell] using h.size, fun j hj => (Below.heap_setCell _ _ _ _ (by simp; omega)).trans (h.low j hj), fun j cs T hc => ?_, fun o' hC' => ?_⟩
  · obtain ⟨cs', h1, h2⟩ := h.kind j cs T hc
    by_cases hjk : j = k
    · subst hjk
      exact ⟨_, setH h1 o u, by simp [h2]⟩
    · exact ⟨cs', (Below.heap_setCell _ _ _ _ hjk).trans h1, h2⟩
  · by_cases hbk : b = k
    · subst hbk
      have hne : o ≠ o' := fun e => hC rfl (e ▸ hC')
      rw [← h.keep o' hC']
      exact World.cell?_setCell_other _ _ _ _ (by intro e; simp only [Addr.mk.injEq] at e; exact hne e.2.1)
    · exact (World.cell?_of_block (Below.heap_setCell _ _ _ _ hbk)).trans (h.keep o' hC')
theorem Spt.below {lo b : Nat} {C : Nat → Prop} {w w' : World} (h : Spt lo b C w w') : Below lo w w' := ⟨h.os, h.tape, h.output, Nat.le_of_eq h.size.symm, h.low⟩
/-- A cell that was there is there. -/
theorem Spt.cell {lo b : Nat} {C : Nat → Prop} {w w' : World} (h : Spt lo b C w w') {k o : Nat} {cs : Array Value} {T : TypeId} {u : Value} (hk : w.heap[k]? = some (.cells cs T (0, 0))) (hc : w.cell? ⟨k, o, none⟩ = some u) : ∃ u', w'.cell? ⟨k, o, none⟩ = some u' ∧ w'.frozen? ⟨k, o, none⟩ = false := by
  obtain ⟨cs', h1, h2⟩ := h.kind k cs T hk
  rw [cellH hk o] at hc
  have ho : o < cs.size := (Array.getElem?_eq_some_iff.1 hc).1
  exact ⟨cs'[o]'(by omega), by rw [cellH h1 o]; exact Array.getElem?_eq_getElem (by omega), freeH h1 o⟩
section
set_option maxRecDepth 100000
set_option maxHeartbeats 4000000
theorem spoil_any {lo : Nat} {w : World} {v : Value} {out : List Tk} (h : OutAt lo w v out) : Calls Tryz.prog 16 #[v] w fun e w' => e = .returned (.tuple #[]) ∧ Below lo w w' := by
  obtain ⟨ms, hrow, hml, hms⟩ := h
  have hmx := hrow.max
  rcases hrow.read with ⟨e1, rfl⟩ | ⟨g, cap, hv, hg1, hg2, hcap, hmax, hc⟩
  · go_enter Tryz.func16, Tryz.ntmps16
    go_wp2_with fail
    go_loopg [6] 1 (fun f s6 wx => s6 = .int .i64 0 ∧ w = wx)
    case atStart => exact ⟨rfl, rfl⟩
    case round =>
      obtain ⟨rfl, rfl⟩ := hrel
      go_wp2_with fail
      first | go_end0 | refine bodyPost_ret (results_none rfl _ _ _) rfl ?_
      exact ⟨rfl, Below.refl _ _⟩
  · obtain ⟨n, hn⟩ : ∃ n, ms.length = n := ⟨_, rfl⟩
    rw [hn] at hv hcap hmx
    subst hv
    obtain ⟨cg, hcg⟩ := hrow.kind g rfl
    have hnn : n ≤ 9223372036854775807 := by unfold maxLen at hmx; omega
    have HC := Lib.hid hc; have HN := Lib.hid hn; have HMS := Lib.hid hms; have HCG := Lib.hid hcg; have HML := Lib.hid hml
    clear hrow hc hn hms hcg hml hcap hmax hmx
    go_enter Tryz.func16, Tryz.ntmps16
    go_wp2_with fail
    go_loopg [6] (n + 1) (fun f s6 wx => ∃ i : Nat, s6 = .int .i64 (i : Int) ∧ f + i = n + 1 ∧ i ≤ n ∧ Spt lo g (fun o => ∃ j, o = j * 5 + 2) w wx)
    case atStart => exact ⟨0, rfl, rfl, Nat.zero_le _, Spt.refl _ _ _ _⟩
    case round =>
      obtain ⟨i, rfl, hg, hi, hS⟩ := hrel
      have HG := Lib.hid hg; have HS := Lib.hid hS
      clear hg hS
      have hi0 : (0 : Int) ≤ i := by omega
      by_cases hlt : i < n
      · have f1 : IntKind.i64.wrap ((i : Int) + 1) = (i : Int) + 1 := IntWalk.i64_in _ (by omega)
        have hI : (i : Int) < n := by omega
        have hil : i < ms.length := by have := HN.out; omega
        obtain ⟨m, hm⟩ : ∃ m, ms[i] = m := ⟨_, rfl⟩
        have c2 := HC.out i hil 2 (by decide)
        have c1 := HC.out i hil 1 (by decide)
        have hok := HMS.out i hil (by have := HML.out; omega)
        rw [hm] at c2 c1 hok
        change w.cell? ⟨g, i * 5 + 2, none⟩ = some (.slice m.aa m.an m.ac) at c2
        change w.cell? ⟨g, i * 5 + 1, none⟩ = some (.string m.name) at c1
        have k2 : wr.cell? ⟨g, i * 5 + 2, none⟩ = some (.slice m.aa m.an m.ac) := (HS.out.keep _ ⟨i, rfl⟩).trans c2
        have HOK := Lib.hid hok; have HLT := Lib.hid hlt; have HC1 := Lib.hid c1; have HC2 := Lib.hid c2
        have hatt := hok.attrs.max
        have han : m.an ≤ 9223372036854775807 := by
          obtain ⟨_, _, e⟩ := hok.attrs.form
          injection e with _ e _
          unfold maxLen at hatt
          omega
        clear hok c1 c2 hlt hatt
        go_wp2_with fail
        go_loopg [15] (m.an + 1) (fun f s15 wx => ∃ k : Nat, s15 = .int .i64 (k : Int) ∧ f + k = m.an + 1 ∧ k ≤ m.an ∧ Spt lo g (fun o => ∃ j, o = j * 5 + 2) w wx)
        case atStart => exact ⟨0, rfl, rfl, Nat.zero_le _, HS.out⟩
        case round =>
          clear HS k2
          obtain ⟨k, rfl, hg, hk, hS⟩ := hrel
          have HGK := Lib.hid hg; have HS := Lib.hid hS
          have k2 : wr.cell? ⟨g, i * 5 + 2, none⟩ = some (.slice m.aa m.an m.ac) := (hS.keep _ ⟨i, rfl⟩).trans HC2.out
          clear hg hS
          have hk0 : (0 : Int) ≤ k := by omega
          by_cases hkl : k < m.an
          · have f2 : IntKind.i64.wrap ((k : Int) + 1) = (k : Int) + 1 := IntWalk.i64_in _ (by omega)
            have hKI : (k : Int) < m.an := by omega
            have HKL := Lib.hid hkl
            rcases HOK.out.attrs.read with ⟨_, e2⟩ | ⟨ag, acap, hav, hag1, hag2, _, _, hac⟩
            · injection e2 with _ e2 _
              omega
            injection hav with e1 e2 e3
            have hkl2 : k < (out[i]'(by have := HML.out; have := HN.out; have := HLT.out; omega)).attrs.length := by omega
            have ca := hac k hkl2 0 (by decide)
            obtain ⟨ca0, hca0⟩ : ∃ u, w.cell? ⟨ag, k * 2, none⟩ = some u := ⟨_, ca⟩
            obtain ⟨cc, hcc⟩ := HOK.out.attrs.kind ag (by rw [e1]; rfl)
            obtain ⟨u, hu, hf⟩ := HS.out.cell hcc hca0
            have hne : ag ≠ g := by
              rintro rfl
              exact kinds_ne hcc HCG.out (by decide)
            have HS3 := Lib.hid (HS.out.set ag (k * 2) (.string ⟨#[33]⟩) hag1 (fun e => absurd e hne))
            rw [e1] at k2
            clear hac ca hca0 hcc hne hkl2 hkl e2 e3
            go_wp2_with fail
            go_roundg (m.an - k)
            case rel => exact ⟨k + 1, by simp, by have := HGK.out; have := HKL.out; omega, HKL.out, HS3.out⟩
            case measure => have := HGK.out; have := HKL.out; omega
          · have hKI : ¬ (k : Int) < m.an := by omega
            obtain ⟨u, hu, hf⟩ := HS.out.cell HCG.out HC1.out
            have HS3 := Lib.hid (HS.out.set g (i * 5 + 1) (.string ⟨#[33]⟩) hg1 (fun _ hh => by obtain ⟨j, hj⟩ := hh; omega))
            clear k2 hkl
            go_wp2_with fail
            go_roundg (n - i)
            case rel => exact ⟨i + 1, by simp, by have := HG.out; have := HLT.out; omega, HLT.out, HS3.out⟩
            case measure => have := HG.out; have := HLT.out; omega
      · have hI : ¬ (i : Int) < n := by omega
        go_wp2_with fail
        first | go_end0 | refine bodyPost_ret (results_none rfl _ _ _) rfl ?_
        exact ⟨rfl, HS.out.below⟩
end
end

section
open Go.RowKit Go.PlainAid

section
set_option maxRecDepth 100000
set_option maxHeartbeats 8000000
theorem ref_use {X : ByteArray} {W : World} {Q : Ending → World → Prop} (h : ∀ (E A : Int) (L : List Tk), Go.RowKit.Hid (∀ W, Gx W → Calls Tryz.prog 14 #[.string X] W fun en w' => ∃ v, en = .returned (.tuple #[v, .agg #[.int .i64 E, .int .i64 A]]) ∧ OutAt W.heap.size w' v L ∧ Below W.heap.size W w') → ∀ v w2, OutAt W.heap.size w2 v L → Below W.heap.size W w2 → Q (.returned (.tuple #[v, .agg #[.int .i64 E, .int .i64 A]])) w2) : Calls Tryz.prog 13 #[.string X] W Q :=
  (rtok_read X W).mono fun en w2 ⟨v, he, hO, hB⟩ => by
    rw [he]
    exact h _ _ _ (Lib.hid fun W hG => xtok_read X W hG) v w2 hO hB
/-- Tokens that lie below N stay. -/
theorem OutAt.low {lo : Nat} {w w' : World} {v : Value} {out : List Tk} (h : OutAt lo w v out) (hB : Below w.heap.size w w') : OutAt lo w' v out := h.on hB
theorem xmlTokens_walk (s : ByteArray) (w : World) (_ : s.size ≤ 140737488351232) (hG : Gl w) :
    Calls Tryz.prog 3 #[.string s] w fun e w' => e = .returned (.bool true) ∧ Below w.heap.size w w' := by
  have HWK := Lib.hid (wakes_any w hG)
  have HG := Lib.hid hG
  clear hG
  go_enter Tryz.func3, Tryz.ntmps3
  go_wp2_with fail
  refine HWK.out.mono ?_
  rintro e w1 ⟨rfl, hB1⟩
  have HB1 := Lib.hid hB1
  clear hB1
  go_wp2_with fail
  refine ref_use ?_
  intro E A L HXT v1 w2 hO2 hB2
  go_upto_region 4 with fail
  have hA1 := (Below.refl w2.heap.size w2).alloc (Nat.le_refl _) (.cells #[.int .i64 E, .int .i64 A] 26)
  have hT1 := Blk.new w2 #[.int .i64 E, .int .i64 A] 26
  have hO3 := hO2.on hA1
  have HB3 := Lib.hid (HB1.out.trans ((hB2.mono HB1.out.size).trans (hA1.mono (Nat.le_trans HB1.out.size hB2.size))))
  generalize w2.alloc (.cells #[.int .i64 E, .int .i64 A] 26) = w3 at *
  generalize w2.heap.size = s4 at *
  generalize w1.heap.size = lo1 at *
  have HO3 := Lib.hid hO3; have HT1 := Lib.hid hT1
  clear hA1 hT1 hO3 hO2 hB2
  go_wp2_with fail
  go_loopg [5] 3 (fun f s5 wx => ∃ i : Nat, s5 = .int .i64 (i : Int) ∧ f + i = 3 ∧ i ≤ 2 ∧ Below w.heap.size w wx ∧ Blk wx s4 #[.int .i64 E, .int .i64 A] ∧ OutAt lo1 wx v1 L)
  case atStart => exact ⟨0, rfl, rfl, by omega, HB3.out, HT1.out, HO3.out⟩
  case round =>
    clear HB3 HT1 HO3
    obtain ⟨i, rfl, hg, hi, hB, hT, hO⟩ := hrel
    have HGG := Lib.hid hg; have HB := Lib.hid hB; have HT := Lib.hid hT; have HO := Lib.hid hO
    have HGR := Lib.hid (HG.out.on hB)
    clear hg hB hT hO
    by_cases hlt : i < 2
    · have hI : (i : Int) < 2 := by omega
      have f1 : IntKind.i64.wrap ((i : Int) + 1) = (i : Int) + 1 := IntWalk.i64_in _ (by omega)
      have HLT := Lib.hid hlt
      clear hlt hi
      go_wp2_with fail
      refine (HXT.out wr HGR.out).mono ?_
      rintro e w4 ⟨v2, rfl, hO4, hB4⟩
      go_upto_region 8 with fail
      have hA := (Below.refl w4.heap.size w4).alloc (Nat.le_refl _) (.cells #[.int .i64 E, .int .i64 A] 26)
      have hS5 := Blk.new w4 #[.int .i64 E, .int .i64 A] 26
      have hB5 := hB4.trans (hA.mono hB4.size)
      have hP5 := hO4.on hA
      generalize w4.alloc (.cells #[.int .i64 E, .int .i64 A] 26) = w5 at *
      generalize w4.heap.size = s7 at *
      have hT5 := HT.out.on hB5
      have hO5 := HO.out.on hB5
      have c0 : w5.cell? ⟨s4, 0, none⟩ = some (.int .i64 E) := hT5.cell 0
      have c1 : w5.cell? ⟨s4, 1, none⟩ = some (.int .i64 A) := hT5.cell 1
      have d0 : w5.cell? ⟨s7, 0, none⟩ = some (.int .i64 E) := hS5.cell 0
      have d1 : w5.cell? ⟨s7, 1, none⟩ = some (.int .i64 A) := hS5.cell 1
      have HSM := Lib.hid (same_yes w5 v2 v1 L hP5.tks hO5.tks hO5.max.1 hO5.max.2)
      have HP5 := Lib.hid hP5; have HB5 := Lib.hid hB5
      clear hA hT5 hO5 hP5 hS5 hO4 hB4 hB5
      go_wp2_with fail
      refine HSM.out.mono ?_
      rintro e w6 ⟨rfl, hB6⟩
      have hsp := spoil_any (HP5.out.on hB6)
      have HB6 := Lib.hid (HB5.out.trans (hB6.mono HB5.out.size))
      clear HSM hB6 c0 c1 d0 d1
      go_wp2_with fail
      refine hsp.mono ?_
      rintro e w7 ⟨rfl, hB7⟩
      have HB7 := Lib.hid (HB6.out.trans hB7)
      clear hsp hB7
      go_wp2_with fail
      go_roundg (2 - i)
      case rel => exact ⟨i + 1, by simp, by have := HGG.out; have := HLT.out; omega, HLT.out, HB.out.trans (HB7.out.mono HB.out.size), HT.out.on HB7.out, HO.out.on HB7.out⟩
      case measure => have := HGG.out; have := HLT.out; omega
    · have hI : ¬ (i : Int) < 2 := by omega
      go_wp2_with fail
      go_ret
      exact ⟨rfl, HB.out⟩
end
end
end Go.Proofs.YtnmpbphnfiiafaaGreatDoor
