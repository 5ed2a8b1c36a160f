/-
  The reader of files: an attribute.
-/
import Derived.Test.YtnmpbphnfiiafaaGreatDoorXmL
import Derived.Test.YtnmpbphnfiiafaaGreatDoorXmJ
namespace Go.Proofs.YtnmpbphnfiiafaaGreatDoor
open Go.RowKit Go.PlainAid

/-- What attr comes to. -/
def AttrEnd (lo rb : Nat) (s : ByteArray) (cs : Array Value) (v : Value) (l : List At2) (w : World) (x : Xr At2) (en : Ending) (w' : World) : Prop :=
  match x with
  | .bad e a => en = Died e a ∧ KeepX w.heap.size rb w w'
  | .ok q a => ∃ v', en = .returned v' ∧ Rdr rb s q (cs.setIfInBounds 1 (.int .i64 (q : Int))) w' ∧ GRow AtE lo w' v' (l ++ [a]) ∧ KeepB rb v w w'
theorem any_drop {l : List At2} {nm : ByteArray} {i : Nat} (h : i < l.length) : ((l.drop i).any fun a => decide (a.1 = nm)) = (decide (l[i].1 = nm) || ((l.drop (i + 1)).any fun a => decide (a.1 = nm))) := by
  rw [List.drop_eq_getElem_cons h, List.any_cons]
theorem keepB_of {rb : Nat} {v : Value} {w w4 w6 : World} {o : Obj} (hK : KeepX w.heap.size rb w w4) (hg : (w4.alloc o).grownBy w6 v.ownBlock) : KeepB rb v w w6 := by
  have hz := hK.size
  have hz2 : w4.heap.size ≤ (w4.alloc o).heap.size := by simp
  refine ⟨hg.os.trans hK.os, hg.tape.trans hK.tape, hg.output.trans hK.output, Nat.le_trans hz (Nat.le_trans hz2 hg.size), fun k hk hx hv => ?_⟩
  rw [hg.block k (by simp; omega) (fun e => hv e.symm), Lib.alloc_old w4 _ k (by omega)]
  exact hK.block k hk hx

set_option maxRecDepth 100000 in
set_option maxHeartbeats 8000000 in
theorem attr_any {lo rb : Nat} {s : ByteArray} {at_ : Nat} {cs : Array Value} {w : World} (h : Rdr rb s at_ cs w) (ha : at_ ≤ s.size) (hz : s.size ≤ 4000000000) (hG : ∀ W, KeepX w.heap.size rb w W → Gx W) (v : Value) (l : List At2) (hrow : GRow AtE lo w v l) (hlo : lo ≤ w.heap.size) (hrb : rb < lo) (hl : l.length ≤ 16) :
    Calls Tryz.prog 70 #[.pointer (some ⟨rb, 0, none⟩), v] w fun en w' => AttrEnd lo rb s cs v l w (attrX s at_ l) en w' := by
  have c1 := h.cell1
  have hnm := rdName_any h ha (by omega)
  have hrd0 := hrow.form
  have HROW := Lib.hid hrow; have HGG := Lib.hid hG; have HLO := Lib.hid hlo; have HRB := Lib.hid hrb
  obtain ⟨a, cap, rfl⟩ := hrd0
  obtain ⟨n, hn⟩ : ∃ n, l.length = n := ⟨_, rfl⟩
  have HN := Lib.hid hn
  rw [hn] at hl HROW ⊢
  clear hrow hG h hlo hrb hn
  go_enter Tryz.func70, Tryz.ntmps70
  go_wp2_with fail
  refine hnm.mono ?_
  intro e w1 hE
  unfold StepEnd at hE
  cases hx : nameX s at_ with
  | bad ee aa =>
    rw [hx] at hE
    obtain ⟨rfl, hK⟩ := hE
    go_wp2_with fail
    refine ⟨rfl, ?_⟩
    unfold AttrEnd attrX
    rw [hx]
    exact ⟨rfl, hK⟩
  | ok q nm =>
    rw [hx] at hE
    obtain ⟨rfl, hM⟩ := hE
    obtain ⟨hq1, hq2⟩ := nameX_in hx ha
    have hax : attrX s at_ l = if n = 16 then .bad 3 at_ else if (l.any fun a => decide (a.1 = nm)) = true then .bad 142 at_ else if bt s q = 61 then (match valX s (q + 1) with
      | .bad e a => .bad e a
      | .ok q' v => .ok q' (nm, v)) else .bad 140 q := by
      unfold attrX
      rw [hx]
      simp only [HN.out]
      rfl
    have hrow1 : GRow AtE lo w1 (.slice a n cap) l := HROW.out.later (fun g hg => hM.2.block g (HROW.out.lt g hg) (by have := HROW.out.own g hg; have := HRB.out; omega))
    have HAX := Lib.hid hax; have HM := Lib.hid hM
    have hf := fun (e : Int) W => fail_any (.pointer (some ⟨rb, 0, none⟩)) e (at_ : Int) W
    clear hax hnm c1 hx HROW
    by_cases h16 : n = 16
    · have hnI : (n : Int) = 16 := by omega
      clear hM hrow1
      go_wp2_with fail
      refine (hf _ _).mono ?_
      rintro e w' ⟨rfl, rfl⟩
      go_wp2_with fail
      refine ⟨rfl, ?_⟩
      rw [HAX.out, if_pos h16]
      exact ⟨rfl, HM.out.2⟩
    · have hnI : ((n : Int) == 16) = false := by simp; omega
      have hnI' : ¬ (n : Int) = 16 := by omega
      have HROW1 := Lib.hid hrow1; have H16 := Lib.hid h16
      clear hM hrow1 h16
      go_wp2_with fail
      go_loopg [23] (n + 1) (fun f s23 wx => ∃ i : Nat, s23 = .int .i64 (i : Int) ∧ f + i = n + 1 ∧ i ≤ n ∧ (l.any fun a => decide (a.1 = nm)) = ((l.drop i).any fun a => decide (a.1 = nm)) ∧ Below w1.heap.size w1 wx)
      case atStart => exact ⟨0, rfl, rfl, Nat.zero_le _, rfl, Below.refl _ _⟩
      case round =>
        obtain ⟨i, rfl, hg, hi, hp, hB⟩ := hrel
        have HG := Lib.hid hg; have HP := Lib.hid hp; have HB := Lib.hid hB
        have hi0 : (0 : Int) ≤ i := by omega
        have f1 : IntKind.i64.wrap ((i : Int) + 1) = (i : Int) + 1 := IntWalk.i64_in _ (by omega)
        by_cases hlt : i < n
        · have hil : i < l.length := by have := HN.out; omega
          rcases (HROW1.out.on hB).read with ⟨e1, _⟩ | ⟨g, cap', hv, hg1, hg2, hcap, hmax, hc⟩
          · rw [e1] at hil; simp at hil
          rw [HN.out] at hv hcap
          injection hv with e1 e2 e3
          subst e1 e3
          have c0 := hc i hil 0 (by decide)
          have c1 := hc i hil 1 (by decide)
          have hst := any_drop (nm := nm) hil
          obtain ⟨p, hpp⟩ : ∃ p, l[i] = p := ⟨_, rfl⟩
          rw [hpp] at hst c0 c1
          have hq := bytes_eqb p.1 nm
          have hiI : (i : Int) < n := by omega
          have HLT := Lib.hid hlt
          obtain ⟨K, V⟩ := p
          change wr.cell? ⟨g, i * 2 + 0, none⟩ = some (Value.string K) at c0
          change wr.cell? ⟨g, i * 2 + 1, none⟩ = some (Value.string V) at c1
          rw [Nat.add_zero] at c0
          simp only at hst hq
          have hBA := HB.out.trans (((Below.refl wr.heap.size wr).alloc (Nat.le_refl _) (.cells #[.string K, .string V] 47)).mono HB.out.size)
          have HBA := Lib.hid hBA
          clear hc hB hBA hg1 hg2
          by_cases he : K = nm
          · rw [decide_eq_true he] at hq
            have hres : (l.any fun a => decide (a.1 = nm)) = true := by rw [hp, hst, decide_eq_true he]; rfl
            have HR := Lib.hid hres
            clear hst he hres hp hg hi hpp hlt
            go_wp2_with fail
            refine (hf _ _).mono ?_
            rintro e w' ⟨rfl, rfl⟩
            go_wp2_with fail
            refine ⟨rfl, ?_⟩
            rw [HAX.out, if_neg H16.out, if_pos HR.out]
            exact ⟨rfl, HM.out.2.on HBA.out (Nat.le_refl _)⟩
          · rw [decide_eq_false he] at hq
            have hnx : (l.any fun a => decide (a.1 = nm)) = ((l.drop (i + 1)).any fun a => decide (a.1 = nm)) := by rw [hp, hst, decide_eq_false he]; rfl
            have HNX := Lib.hid hnx
            clear hst he hnx hp hg hi hpp hlt
            go_wp2_with fail
            go_roundg (n - i)
            case rel => exact ⟨i + 1, by simp, by have := HG.out; have := HLT.out; omega, HLT.out, HNX.out, HBA.out⟩
            case measure => have := HG.out; have := HLT.out; omega
        · have hiI : ¬ (i : Int) < n := by omega
          have hno : ¬ (l.any fun a => decide (a.1 = nm)) = true := by
            rw [hp, List.drop_eq_nil_of_le (by have := HN.out; omega)]
            simp
          have hM2 := HM.out.on hB
          have hnx := next_any hM2.1 hq2
          have hax := HAX.out
          rw [if_neg H16.out, if_neg hno] at hax
          clear hp hg hi hlt hno HP HG hB
          by_cases h61 : bt s q = 61
          · have hlt : q < s.size := by
              by_cases hp : q < s.size
              · exact hp
              · rw [bt_end s (by omega)] at h61; omega
            rw [if_pos h61] at hax
            rw [h61] at hnx
            have HX := Lib.hid hax; have HM2 := Lib.hid hM2; have HLT := Lib.hid hlt
            have hwy := fun W => want_yes (.pointer (some ⟨rb, 0, none⟩)) W
            clear hax hM2 h61 hlt HAX
            go_wp2_with fail
            refine hnx.mono ?_
            rintro e w2 ⟨rfl, hB2⟩
            have hM3 := HM2.out.on hB2
            have d1 := hM3.1.cell1
            have d0 := hM3.1.blk.free 1
            have f1 : IntKind.i64.wrap ((q : Int) + 1) = ((q + 1 : Nat) : Int) := by rw [IntWalk.i64_in _ (by omega)]; omega
            have hM4 := hM3.set (q + 1)
            have hrow4 : GRow AtE lo (w2.setCell ⟨rb, 1, none⟩ (.int .i64 ((q + 1 : Nat) : Int))) (.slice a n cap) l := ((HROW1.out.on HB.out).on hB2).set rb 1 _ HRB.out
            have hva := value_any hM4.1 HLT.out hz (fun W hW => HGG.out W (hM4.2.trans (hW.mono hM4.2.size)))
            have HM4 := Lib.hid hM4; have HROW4 := Lib.hid hrow4
            clear hM3 hM4 hrow4 hnx hB2
            go_wp2_with fail
            refine (hwy _).mono ?_
            rintro e w' ⟨rfl, rfl⟩
            go_wp2_with fail
            refine hva.mono ?_
            intro e w4 hE
            unfold StepEnd at hE
            cases hv : valX s (q + 1) with
            | bad ee aa =>
              rw [hv] at hE
              obtain ⟨rfl, hK⟩ := hE
              go_wp2_with fail
              refine ⟨rfl, ?_⟩
              rw [HX.out, hv]
              exact ⟨rfl, HM4.out.2.trans (hK.mono HM4.out.2.size)⟩
            | ok q2 vv =>
              rw [hv] at hE
              obtain ⟨rfl, hM5⟩ := hE
              have hM6 := HM4.out.trans hM5
              have hrow5 : GRow AtE lo w4 (.slice a n cap) l := HROW4.out.later (fun g hg => hM5.2.block g (HROW4.out.lt g hg) (by have := HROW4.out.own g hg; have := HRB.out; omega))
              have hx := HX.out
              rw [hv] at hx
              have hlo4 : lo ≤ w4.heap.size := Nat.le_trans HLO.out hM6.2.size
              have hlen : l.length ≤ 100000000 := by have := HN.out; omega
              have HXX := Lib.hid hx; have HM6 := Lib.hid hM6
              clear hv hx hM5 hM6 hva d1 d0
              go_wp2_with (at_builtin; go_must (refine wpList_snoc_g AtE (x := (nm, vv)) rfl _ _ rfl lo _ l rfl (hrow5.on ((Below.refl _ _).alloc (Nat.le_refl _) (.cells #[.string nm, .string vv] 47))) 1 _ rfl (Blk.new _ _ _) hlen (Nat.le_trans hlo4 (by simp)) ?_); intro v' w6 hrow6 hg6; obtain ⟨a', n', c', rfl⟩ := hrow6.form')
              go_ret
              rw [HXX.out]
              have ho : (Value.slice a n cap).ownBlock ≠ some rb := fun e => by have := hrow5.own rb e; have := HRB.out; omega
              refine ⟨_, rfl, ⟨?_, HM6.out.1.c0, HM6.out.1.c1⟩, hrow6, keepB_of HM6.out.2 hg6⟩
              have hb := HM6.out.1.blk
              exact (hg6.block rb (by simp; have := hb.lt'; omega) (fun e => ho e.symm)).trans ((Lib.alloc_old w4 _ rb hb.lt').trans hb)
          · have h61' : (bt s q == 61) = false := by simpa using h61
            rw [if_neg h61] at hax
            have HX := Lib.hid hax; have HM2 := Lib.hid hM2
            clear hax hM2 h61 HAX
            go_wp2_with fail
            refine hnx.mono ?_
            rintro e w2 ⟨rfl, hB2⟩
            have hM3 := HM2.out.on hB2
            have hwn := want_no hM3.1
            have HM3 := Lib.hid hM3
            clear hM3 hB2 hnx
            go_wp2_with fail
            refine hwn.mono ?_
            rintro e w' ⟨rfl, rfl⟩
            go_wp2_with fail
            refine ⟨rfl, ?_⟩
            rw [HX.out]
            exact ⟨rfl, HM3.out.2⟩
end Go.Proofs.YtnmpbphnfiiafaaGreatDoor
