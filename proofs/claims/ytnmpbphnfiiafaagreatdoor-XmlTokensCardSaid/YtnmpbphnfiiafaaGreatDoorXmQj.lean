/-
  The document's answer: an attribute.
-/
import Derived.Test.YtnmpbphnfiiafaaGreatDoorXmQi
namespace Go.Proofs.YtnmpbphnfiiafaaGreatDoor
open Go.RowKit Go.PlainAid

/-- What the attribute's walk stands on: the result's block, the attribute's own. -/
structure AtB (w w3 : World) (cb rb ab : Nat) : Prop where
  res : w3.heap[rb]? = some (.cells #[.string ⟨#[]⟩, .string ⟨#[]⟩] 47 (0, 0))
  rw : w.heap.size ≤ rb
  aw : w.heap.size ≤ ab
  ne : ab ≠ rb
  cr : cb ≠ rb
  ca : cb ≠ ab
  rz : rb < w3.heap.size
  az : ab < w3.heap.size
  keep : KeepX w.heap.size cb w w3
section
variable {w w3 W : World} {cb rb ab : Nat} {s : ByteArray} {p q : Nat} {e a : Int} {c4 c5 c6 c7 : Value} {x y : Value}
/-- The scan in a later world; the attribute's block holds x and y. -/
structure AtS (w3 : World) (cb rb ab : Nat) (s : ByteArray) (q : Nat) (e a : Int) (c4 c5 c6 c7 x y : Value) (W : World) : Prop where
  scn : Scn cb s q e a c4 c5 c6 c7 W
  keep : ∀ k, k < w3.heap.size → k ≠ cb → k ≠ ab → W.heap[k]? = w3.heap[k]?
  os : W.os = w3.os
  tape : W.tape = w3.tape
  output : W.output = w3.output
  size : w3.heap.size ≤ W.heap.size
  ab : W.heap[ab]? = some (.cells #[x, y] 47 (0, 0))
theorem AtS.next (h : AtS w3 cb rb ab s p e a c4 c5 c6 c7 x y W) {W' : World} {e' a' : Int} (haz : ab < w3.heap.size) (hca : cb ≠ ab) (hM : ScnM cb s e' a' c4 c5 c6 c7 W q W') : AtS w3 cb rb ab s q e' a' c4 c5 c6 c7 x y W' :=
  ⟨hM.1, fun k hk h1 h2 => (hM.2.block k (Nat.lt_of_lt_of_le hk h.size) h1).trans (h.keep k hk h1 h2), hM.2.os.trans h.os, hM.2.tape.trans h.tape, hM.2.output.trans h.output, Nat.le_trans h.size hM.2.size, (hM.2.block ab (Nat.lt_of_lt_of_le haz h.size) (Ne.symm hca)).trans h.ab⟩
theorem AtS.on (h : AtS w3 cb rb ab s p e a c4 c5 c6 c7 x y W) {W' : World} (haz : ab < w3.heap.size) (hca : cb ≠ ab) (hB : Below W.heap.size W W') : AtS w3 cb rb ab s p e a c4 c5 c6 c7 x y W' :=
  h.next haz hca (h.scn.moved hB)
theorem AtS.set (h : AtS w3 cb rb ab s p e a c4 c5 c6 c7 x y W) (hca : cb ≠ ab) (u : Value) : AtS w3 cb rb ab s p e a c4 c5 c6 c7 x u (W.setCell ⟨ab, 1, none⟩ u) :=
  ⟨(Below.heap_setCell _ _ _ _ hca).trans h.scn, fun k hk h1 h2 => (Below.heap_setCell _ _ _ _ h2).trans (h.keep k hk h1 h2), h.os, h.tape, h.output, by simpa [World.setCell] using h.size, setH h.ab 1 u⟩
/-- What is handed back. -/
theorem AtS.done (h : AtS w3 cb rb ab s p e a c4 c5 c6 c7 x y W) (hA : AtB w w3 cb rb ab) :
    W.frozen? ⟨rb, 0, none⟩ = false ∧ W.frozen? ⟨rb, 1, none⟩ = false ∧ W.cell? ⟨rb, 0, none⟩ = some (.string ⟨#[]⟩) ∧ W.cell? ⟨rb, 1, none⟩ = some (.string ⟨#[]⟩) ∧ W.cell? ⟨ab, 0, none⟩ = some x ∧ W.cell? ⟨ab, 1, none⟩ = some y ∧
      ((W.setCell ⟨rb, 0, none⟩ x).setCell ⟨rb, 1, none⟩ y).cell? ⟨rb, 0, none⟩ = some x ∧ ((W.setCell ⟨rb, 0, none⟩ x).setCell ⟨rb, 1, none⟩ y).cell? ⟨rb, 1, none⟩ = some y ∧
      ScnM cb s e a c4 c5 c6 c7 w p ((W.setCell ⟨rb, 0, none⟩ x).setCell ⟨rb, 1, none⟩ y) := by
  have hr := (h.keep rb hA.rz (Ne.symm hA.cr) (Ne.symm hA.ne)).trans hA.res
  have hb := setH (setH hr 0 x) 1 y
  have hrw := hA.rw
  have haw := hA.aw
  exact ⟨freeH hr 0, freeH hr 1, cellH hr 0, cellH hr 1, cellH h.ab 0, cellH h.ab 1, cellH hb 0, cellH hb 1, ((Below.heap_setCell _ _ _ _ hA.cr).trans ((Below.heap_setCell _ _ _ _ hA.cr).trans h.scn)),
    ⟨h.os.trans hA.keep.os, h.tape.trans hA.keep.tape, h.output.trans hA.keep.output, by have := h.size; have := hA.keep.size; simp [World.setCell]; omega, fun k hk hx => (Below.heap_setCell _ _ _ _ (by simp; omega)).trans ((Below.heap_setCell _ _ _ _ (by simp; omega)).trans ((h.keep k (Nat.lt_of_lt_of_le hk hA.keep.size) hx (by omega)).trans (hA.keep.block k hk hx)))⟩⟩
end
section
set_option maxRecDepth 100000
set_option maxHeartbeats 8000000
theorem rAttr_any {lo cb : Nat} {s : ByteArray} {at_ : Nat} {c4 c5 c6 c7 : Value} {w : World} (h : Scn cb s at_ 0 0 c4 c5 c6 c7 w) (ha : at_ ≤ s.size) (hz : s.size ≤ 100000000) (v : Value) (l : List At2) (hrow : GRow AtE lo w v l) (hcb : cb < lo) (hl : l.length ≤ 16) :
    Calls Tryz.prog 62 #[.pointer (some ⟨cb, 0, none⟩), v] w fun en w' => SEnd (attrX s at_ l) (fun a => .agg #[.string a.1, .string a.2]) cb s c4 c5 c6 c7 w en w' := by
  obtain ⟨R, hR⟩ : ∃ R, attrX s at_ l = R := ⟨_, rfl⟩
  rw [hR]
  have c1 := h.cell1
  obtain ⟨w1, hw1⟩ : ∃ w1, w.alloc (.cells #[.string ⟨#[]⟩, .string ⟨#[]⟩] 47) = w1 := ⟨_, rfl⟩
  have hB1 : Below w.heap.size w w1 := by rw [← hw1]; exact (Below.refl _ _).alloc (Nat.le_refl _) _
  have hres1 : w1.heap[w.heap.size]? = some (.cells #[.string ⟨#[]⟩, .string ⟨#[]⟩] 47 (0, 0)) := by rw [← hw1]; exact push_new _ _ _ rfl
  have hz1 : w1.heap.size = w.heap.size + 1 := by rw [← hw1]; simp
  have hnm := rName1_any (h.on hB1) ha (by omega)
  have c1' := (h.on hB1).cell1
  have hcw := h.lt
  have hrow1 := hrow.on hB1
  obtain ⟨va, cap, rfl⟩ := hrow.form
  obtain ⟨n, hn⟩ : ∃ n, l.length = n := ⟨_, rfl⟩
  have HN := Lib.hid hn
  rw [hn] at hl hrow1 ⊢
  have HR := Lib.hid hR; have HW1 := Lib.hid hw1; have H1 := Lib.hid (h.moved hB1); have HRES := Lib.hid hres1; have HZ1 := Lib.hid hz1; have HROW1 := Lib.hid hrow1; have HCW := Lib.hid hcw
  clear hR hw1 hB1 hres1 hz1 hrow1 hrow h hcw hn
  go_enter Tryz.func62, Tryz.ntmps62
  go_upto_region 1 with fail
  rw [HW1.out]
  obtain ⟨rb, hrb⟩ : ∃ rb, w.heap.size = rb := ⟨_, rfl⟩
  rw [hrb]
  go_wp2_with fail
  refine hnm.mono ?_
  intro en w2 hE
  obtain ⟨x, rfl, hst⟩ : ∃ x : ByteArray, en = .returned (.string x) ∧ ((∃ q, nameX s at_ = .ok q x ∧ q ≤ s.size ∧ ScnM cb s 0 0 c4 c5 c6 c7 w1 q w2) ∨ (∃ (e : Int) (a q : Nat), e ≠ 0 ∧ R = .bad e a ∧ ScnM cb s e (a : Int) c4 c5 c6 c7 w1 q w2 ∧ q ≤ s.size)) := by
    unfold SEnd at hE
    cases hx : nameX s at_ with
    | bad ee aa =>
      rw [hx] at hE
      obtain ⟨hee, ⟨x, hxx⟩, q, hq, hM⟩ := hE
      exact ⟨x, hxx, .inr ⟨ee, aa, q, hee, by rw [← HR.out]; unfold attrX; rw [hx], hM, hq⟩⟩
    | ok q x =>
      rw [hx] at hE
      exact ⟨x, hE.1, .inl ⟨q, rfl, (nameX_in hx ha).2, hE.2⟩⟩
  have HST := Lib.hid hst
  clear hst hE hnm c1 c1'
  go_upto_region 3 with fail
  obtain ⟨w3, hw3⟩ : ∃ w3, w2.alloc (.cells #[.string x, .string ⟨#[]⟩] 47) = w3 := ⟨_, rfl⟩
  obtain ⟨ab, hab⟩ : ∃ ab, w2.heap.size = ab := ⟨_, rfl⟩
  have key : ∀ {e a : Int} {q : Nat}, ScnM cb s e a c4 c5 c6 c7 w1 q w2 → AtB w w3 cb rb ab ∧ AtS w3 cb rb ab s q e a c4 c5 c6 c7 (.string x) (.string ⟨#[]⟩) w3 ∧ GRow AtE lo w3 (.slice va n cap) l ∧ (∀ g, (Value.slice va n cap).ownBlock = some g → g < ab) := fun {e a q} hM => by
    have hz2 := hM.2.size
    have hz1 := HZ1.out
    have hcw := HCW.out
    have hB3 : Below w2.heap.size w2 w3 := by rw [← hw3]; exact (Below.refl _ _).alloc (Nat.le_refl _) _
    have hz3 : w3.heap.size = w2.heap.size + 1 := by rw [← hw3]; simp
    refine ⟨⟨(hB3.block rb (by omega)).trans ((hM.2.block rb (by omega) (by omega)).trans (by rw [← hrb]; exact HRES.out)), by omega, by omega, by omega, by omega, by omega, by omega, by omega, H1.out.2.trans ((hM.2.mono (by omega)).trans (KeepX.of hB3 (by omega)))⟩, ⟨hM.1.on hB3, fun _ _ _ _ => rfl, rfl, rfl, rfl, Nat.le_refl _, ?_⟩, ?_, fun g hg => by have := HROW1.out.lt g hg; omega⟩
    · rw [← hw3]; exact push_new _ _ _ hab.symm
    · exact (HROW1.out.later (fun g hg => hM.2.block g (HROW1.out.lt g hg) (by have := HROW1.out.own g hg; omega))).on hB3
  have hboth : AtB w w3 cb rb ab ∧ GRow AtE lo w3 (.slice va n cap) l ∧ (∀ g, (Value.slice va n cap).ownBlock = some g → g < ab) := by
    rcases HST.out with ⟨q, _, _, hM⟩ | ⟨_, _, _, _, _, hM, _⟩
    · exact ⟨(key hM).1, (key hM).2.2⟩
    · exact ⟨(key hM).1, (key hM).2.2⟩
  have hst3 : (∃ q, nameX s at_ = .ok q x ∧ q ≤ s.size ∧ AtS w3 cb rb ab s q 0 0 c4 c5 c6 c7 (.string x) (.string ⟨#[]⟩) w3) ∨ (∃ (e : Int) (a q : Nat), e ≠ 0 ∧ R = .bad e a ∧ q ≤ s.size ∧ AtS w3 cb rb ab s q e (a : Int) c4 c5 c6 c7 (.string x) (.string ⟨#[]⟩) w3) := by
    rcases HST.out with ⟨q, h1, h2, hM⟩ | ⟨e, a, q, h1, h2, hM, h3⟩
    · exact .inl ⟨q, h1, h2, (key hM).2.1⟩
    · exact .inr ⟨e, a, q, h1, h2, h3, (key hM).2.1⟩
  have HA := Lib.hid hboth.1; have HROW := Lib.hid hboth.2.1; have HLA := Lib.hid hboth.2.2; have HS3 := Lib.hid hst3
  rw [hw3, hab]
  clear key hboth hst3 HST hw3 hab HZ1 HRES H1 HROW1 HW1 hrb
  go_cut [23] (fun s23 wx => (∃ q, nameX s at_ = .ok q x ∧ q ≤ s.size ∧ s23 = .bool (decide (n = 16)) ∧ AtS w3 cb rb ab s q 0 0 c4 c5 c6 c7 (.string x) (.string ⟨#[]⟩) wx) ∨ (∃ (e : Int) (a q : Nat), e ≠ 0 ∧ R = .bad e a ∧ q ≤ s.size ∧ s23 = .bool false ∧ AtS w3 cb rb ab s q e (a : Int) c4 c5 c6 c7 (.string x) (.string ⟨#[]⟩) wx))
  case first =>
    rcases HS3.out with ⟨q, hx, hq, hS⟩ | ⟨e, a, q, he, hx, hq, hS⟩
    · have hbd := bad_no hS.scn
      have HX := Lib.hid hx; have HS := Lib.hid hS
      clear hx hS
      by_cases h16 : n = 16
      · have hnI : ((n : Int) == 16) = true := by simp; omega
        have hd : decide (n = 16) = true := decide_eq_true h16
        have HD := Lib.hid hd
        clear h16 hd
        go_wp2_with fail
        refine hbd.mono ?_
        rintro en w' ⟨rfl, rfl⟩
        go_wp2_with fail
        go_meet
        case rel => exact .inl ⟨q, HX.out, hq, by rw [HD.out], HS.out⟩
      · have hnI : ((n : Int) == 16) = false := by simp; omega
        have hnI' : ¬ (n : Int) = 16 := by omega
        have hd : decide (n = 16) = false := decide_eq_false h16
        have HD := Lib.hid hd
        clear h16 hd
        go_wp2_with fail
        refine hbd.mono ?_
        rintro en w' ⟨rfl, rfl⟩
        go_wp2_with fail
        go_meet
        case rel => exact .inl ⟨q, HX.out, hq, by rw [HD.out], HS.out⟩
    · have hbd := bad_yes hS.scn he
      have HX := Lib.hid hx; have HS := Lib.hid hS; have HE := Lib.hid he
      clear hx hS he
      go_wp2_with fail
      refine hbd.mono ?_
      rintro en w' ⟨rfl, rfl⟩
      go_wp2_with fail
      go_meet
      case rel => exact .inr ⟨e, a, q, HE.out, HX.out, hq, rfl, HS.out⟩
  case rest =>
  have HC1 := Lib.hid hcut
  clear hcut HS3
  go_upto_if 23 with fail
  go_cut [] (fun wx => (∃ q, nameX s at_ = .ok q x ∧ q ≤ s.size ∧ n ≠ 16 ∧ AtS w3 cb rb ab s q 0 0 c4 c5 c6 c7 (.string x) (.string ⟨#[]⟩) wx) ∨ (∃ (e : Int) (a q : Nat), e ≠ 0 ∧ R = .bad e a ∧ q ≤ s.size ∧ AtS w3 cb rb ab s q e (a : Int) c4 c5 c6 c7 (.string x) (.string ⟨#[]⟩) wx))
  case first =>
    rcases HC1.out with ⟨q, hx, hq, hs, hS⟩ | ⟨e, a, q, he, hx, hq, hs, hS⟩
    · have HX := Lib.hid hx; have HS := Lib.hid hS
      clear hx hS
      by_cases h16 : n = 16
      · rw [decide_eq_true h16] at hs
        subst hs
        have hwf := wrong_first HS.out.scn 3 (at_ : Int)
        have hRR : R = .bad 3 at_ := by
          rw [← HR.out]
          unfold attrX
          rw [HX.out]
          simp only
          rw [if_pos (by rw [HN.out]; exact h16)]
        have HRR := Lib.hid hRR
        clear hRR h16 HC1
        go_wp2_with fail
        refine hwf.mono ?_
        rintro en w' ⟨rfl, rfl⟩
        clear hwf
        go_wp2_with fail
        go_meet
        case rel => exact .inr ⟨3, at_, q, by decide, HRR.out, hq, HS.out.next HA.out.az HA.out.ca ⟨HS.out.scn.mark 3 (at_ : Int), ((KeepX.refl _ cb _).setCell 2 (.int .i64 3)).setCell 3 (.int .i64 (at_ : Int))⟩⟩
      · rw [decide_eq_false h16] at hs
        subst hs
        clear HC1
        go_wp2_with fail
        go_meet
        case rel => exact .inl ⟨q, HX.out, hq, h16, HS.out⟩
    · subst hs
      have HX := Lib.hid hx; have HS := Lib.hid hS; have HE := Lib.hid he
      clear hx hS he HC1
      go_wp2_with fail
      go_meet
      case rel => exact .inr ⟨e, a, q, HE.out, HX.out, hq, HS.out⟩
  case rest =>
    have HCUT := Lib.hid hcut
    clear hcut HC1
    go_wp2_with fail
    go_loopg [29] (n + 1) (fun f s29 wx => ∃ i : Nat, s29 = .int .i64 (i : Int) ∧ f + i = n + 1 ∧ i ≤ n ∧ ((∃ q, nameX s at_ = .ok q x ∧ q ≤ s.size ∧ n ≠ 16 ∧ (l.any fun a => decide (a.1 = x)) = ((l.drop i).any fun a => decide (a.1 = x)) ∧ AtS w3 cb rb ab s q 0 0 c4 c5 c6 c7 (.string x) (.string ⟨#[]⟩) wx) ∨ (∃ (e : Int) (a q : Nat), e ≠ 0 ∧ R = .bad e a ∧ q ≤ s.size ∧ AtS w3 cb rb ab s q e (a : Int) c4 c5 c6 c7 (.string x) (.string ⟨#[]⟩) wx)))
    case atStart =>
      refine ⟨0, rfl, rfl, Nat.zero_le _, ?_⟩
      rcases HCUT.out with ⟨q, h1, h2, h3, hS⟩ | hb
      · exact .inl ⟨q, h1, h2, h3, rfl, hS⟩
      · exact .inr hb
    case round =>
      clear HCUT
      obtain ⟨i, rfl, hg, hi, hst⟩ := hrel
      have HG := Lib.hid hg
      have hi0 : (0 : Int) ≤ i := by omega
      have f1 : IntKind.i64.wrap ((i : Int) + 1) = (i : Int) + 1 := IntWalk.i64_in _ (by omega)
      have HST := Lib.hid hst
      clear hg hst
      by_cases hlt : i < n
      · have hil : i < l.length := by have := HN.out; omega
        have hrw : GRow AtE lo wr (.slice va n cap) l := by
          have hk : ∀ {q : Nat} {e a : Int}, AtS w3 cb rb ab s q e a c4 c5 c6 c7 (.string x) (.string ⟨#[]⟩) wr → GRow AtE lo wr (.slice va n cap) l := fun {q e a} hS => HROW.out.later (fun g hg => hS.keep g (HROW.out.lt g hg) (by have := HROW.out.own g hg; omega) (by have := HLA.out g hg; omega))
          rcases HST.out with ⟨q, _, _, _, _, hS⟩ | ⟨_, _, q, _, _, _, hS⟩
          · exact hk hS
          · exact hk hS
        rcases hrw.read with ⟨e1, _⟩ | ⟨g, cap', hv, hg1, hg2, hcap, hmax, hc⟩
        · rw [e1] at hil; simp at hil
        rw [HN.out] at hv hcap
        injection hv with e1 e2 e3
        subst e1 e3
        have c0 := hc i hil 0 (by decide)
        have c1 := hc i hil 1 (by decide)
        have hst := any_drop (nm := x) hil
        obtain ⟨p, hpp⟩ : ∃ p, l[i] = p := ⟨_, rfl⟩
        rw [hpp] at hst c0 c1
        have hq := bytes_eqb x p.1
        have hiI : (i : Int) < n := by omega
        have HLT := Lib.hid hlt
        obtain ⟨K, V⟩ := p
        change wr.cell? ⟨g, i * 2 + 0, none⟩ = some (Value.string K) at c0
        change wr.cell? ⟨g, i * 2 + 1, none⟩ = some (Value.string V) at c1
        rw [Nat.add_zero] at c0
        simp only at hst hq
        have hBA := (Below.refl wr.heap.size wr).alloc (Nat.le_refl _) (.cells #[.string K, .string V] 47)
        have HBA := Lib.hid hBA; have HHST := Lib.hid hst
        have kb0 := cellH (push_new wr (.cells #[.string K, .string V] 47) wr.heap.size rfl) 0
        have ka : ∀ {q : Nat} {e a : Int}, AtS w3 cb rb ab s q e a c4 c5 c6 c7 (.string x) (.string ⟨#[]⟩) wr → (wr.alloc (.cells #[.string K, .string V] 47)).cell? ⟨ab, 0, none⟩ = some (.string x) := fun {q e a} hS => cellH (hS.on HA.out.az HA.out.ca HBA.out).ab 0
        clear hc hBA hg1 hg2 hrw hst
        rcases HST.out with ⟨q, h1, h2, h3, hp, hS⟩ | ⟨e, a, q, he, hx, hq2, hS⟩
        · have hS' := hS.on HA.out.az HA.out.ca HBA.out
          have hbd := bad_no hS'.scn
          have ka0 := ka hS
          have HX := Lib.hid h1; have HP := Lib.hid hp; have HS := Lib.hid hS'; have H3 := Lib.hid h3
          clear ka h1 hp hS hS' HST hpp hlt hi
          by_cases he : x = K
          · rw [decide_eq_true he] at hq
            have hwf := wrong_first HS.out.scn 142 (at_ : Int)
            have hRR : R = .bad 142 at_ := by
              rw [← HR.out]
              unfold attrX
              rw [HX.out]
              simp only
              rw [if_neg (by rw [HN.out]; exact H3.out), if_pos (by rw [HP.out, HHST.out, he]; simp)]
            have HRR := Lib.hid hRR
            clear hRR he
            go_upto_region 8 with fail
            generalize hw5 : wr.alloc (.cells #[.string K, .string V] 47) = w5 at *
            generalize hsb : wr.heap.size = tb at *
            clear hw5 hsb c0 c1
            go_wp2_with fail
            refine hbd.mono ?_
            rintro en w' ⟨rfl, rfl⟩
            go_wp2_with fail
            refine hwf.mono ?_
            rintro en w' ⟨rfl, rfl⟩
            clear hwf
            go_wp2_with fail
            go_roundg (n - i)
            case rel => exact ⟨i + 1, by simp, by have := HG.out; have := HLT.out; omega, HLT.out, .inr ⟨142, at_, q, by decide, HRR.out, h2, HS.out.next HA.out.az HA.out.ca ⟨HS.out.scn.mark 142 (at_ : Int), ((KeepX.refl _ cb _).setCell 2 (.int .i64 142)).setCell 3 (.int .i64 (at_ : Int))⟩⟩⟩
            case measure => have := HG.out; have := HLT.out; omega
          · rw [decide_eq_false he] at hq
            have hnx : (l.any fun a => decide (a.1 = x)) = ((l.drop (i + 1)).any fun a => decide (a.1 = x)) := by rw [HP.out, HHST.out, decide_eq_false (fun e => he e.symm)]; rfl
            have HNX := Lib.hid hnx
            clear he hnx
            go_upto_region 8 with fail
            generalize hw5 : wr.alloc (.cells #[.string K, .string V] 47) = w5 at *
            generalize hsb : wr.heap.size = tb at *
            clear hw5 hsb c0 c1
            go_wp2_with fail
            refine hbd.mono ?_
            rintro en w' ⟨rfl, rfl⟩
            go_wp2_with fail
            go_roundg (n - i)
            case rel => exact ⟨i + 1, by simp, by have := HG.out; have := HLT.out; omega, HLT.out, .inl ⟨q, HX.out, h2, H3.out, HNX.out, HS.out⟩⟩
            case measure => have := HG.out; have := HLT.out; omega
        · have hS' := hS.on HA.out.az HA.out.ca HBA.out
          have hbd := bad_yes hS'.scn he
          have HX := Lib.hid hx; have HS := Lib.hid hS'; have HE := Lib.hid he
          clear ka hx hS hS' HST hpp hlt hi he hq
          go_upto_region 8 with fail
          generalize hw5 : wr.alloc (.cells #[.string K, .string V] 47) = w5 at *
          generalize hsb : wr.heap.size = tb at *
          clear hw5 hsb c0 c1
          go_wp2_with fail
          refine hbd.mono ?_
          rintro en w' ⟨rfl, rfl⟩
          go_wp2_with fail
          go_roundg (n - i)
          case rel => exact ⟨i + 1, by simp, by have := HG.out; have := HLT.out; omega, HLT.out, .inr ⟨e, a, q, HE.out, HX.out, hq2, HS.out⟩⟩
          case measure => have := HG.out; have := HLT.out; omega
      · have hiI : ¬ (i : Int) < n := by omega
        clear f1
        rcases HST.out with ⟨q, h1, h2, h3, hp, hS⟩ | ⟨e, a, q, he, hx, hq2, hS⟩
        · have hno : ¬ (l.any fun a => decide (a.1 = x)) = true := by
            rw [hp, List.drop_eq_nil_of_le (by have := HN.out; omega)]
            simp
          have hRR : R = if bt s q = 61 then (match valX s (q + 1) with
              | .bad e a => .bad e a
              | .ok q' v => .ok q' (x, v)) else .bad 140 q := by
            rw [← HR.out]
            unfold attrX
            rw [h1]
            simp only
            rw [if_neg (by rw [HN.out]; exact h3), if_neg hno]
            split
            · cases valX s (q + 1) <;> rfl
            · rfl
          have hbd := bad_no hS.scn
          have hi61 := is_any hS.scn h2 [61] (by decide)
          have hw61 : wdAt s q (([61] : List UInt8).map fun c => (c.toNat : Int)) = (bt s q == 61) := by simp [wdAt]
          rw [hw61] at hi61
          have HS := Lib.hid hS; have HRR := Lib.hid hRR
          clear hno hp hS hRR HST hlt hi hw61 h1
          by_cases h61 : bt s q = 61
          · have h61b : (bt s q == 61) = true := by simpa using h61
            rw [h61b] at hi61
            have hqs : q < s.size := by
              by_cases hh : q < s.size
              · exact hh
              · rw [bt_end s (by omega)] at h61; omega
            have hR2 := HRR.out
            rw [if_pos h61] at hR2
            have HR2 := Lib.hid hR2; have HQS := Lib.hid hqs
            clear hR2 h61 h61b hqs
            go_wp2_with fail
            refine hbd.mono ?_
            rintro en w' ⟨rfl, rfl⟩
            go_wp2_with fail
            refine hi61.mono ?_
            rintro en w5 ⟨rfl, hB5⟩
            have hS5 := HS.out.on HA.out.az HA.out.ca hB5
            have hbd5 := bad_no hS5.scn
            have HS5 := Lib.hid hS5
            clear hS5 hB5 hi61 hbd
            go_wp2_with fail
            refine hbd5.mono ?_
            rintro en w' ⟨rfl, rfl⟩
            have d1 := HS5.out.scn.cell1
            have d0 := HS5.out.scn.free 1
            have f2 : IntKind.i64.wrap ((q : Int) + 1) = ((q + 1 : Nat) : Int) := by rw [IntWalk.i64_in _ (by omega)]; omega
            have hS6 : AtS w3 cb rb ab s (q + 1) 0 0 c4 c5 c6 c7 (.string x) (.string ⟨#[]⟩) (w5.setCell ⟨cb, 1, none⟩ (.int .i64 ((q + 1 : Nat) : Int))) := HS5.out.next HA.out.az HA.out.ca ((HS5.out.scn.moved (Below.refl _ _)).set (q + 1))
            have hval := rValue_any hS6.scn HQS.out hz
            have HS6 := Lib.hid hS6
            clear hS6 hbd5
            go_wp2_with fail
            refine hval.mono ?_
            intro en w7 hE
            clear hval d1 d0 f2
            unfold SEnd at hE
            cases hvx : valX s (q + 1) with
            | bad ee aa =>
              rw [hvx] at hE
              obtain ⟨hee, ⟨y, rfl⟩, q7, hq7, hM7⟩ := hE
              have hx := HR2.out
              rw [hvx] at hx
              simp only at hx
              have hS7 := HS6.out.next HA.out.az HA.out.ca hM7
              have HX := Lib.hid hx; have HE := Lib.hid hee
              clear hx hee hM7 hvx
              have d1 := freeH hS7.ab 1
              have d2 := cellH hS7.ab 1
              have hS8 := hS7.set HA.out.ca (.string y)
              obtain ⟨g0, g1, k0, k1, m0, m1, z0, z1, hfin⟩ := hS8.done HA.out
              have HF := Lib.hid hfin
              clear hS7 hS8 hfin
              go_wp2_with fail
              refine bodyPost_ret (v := .agg #[.string x, .string y]) (by simp [results, Tryz.results62, go_sem, z0, z1]) rfl ?_
              rw [HX.out]
              exact ⟨HE.out, ⟨(x, y), rfl⟩, q7, hq7, HF.out⟩
            | ok q7 y =>
              rw [hvx] at hE
              obtain ⟨rfl, hM7⟩ := hE
              have hx := HR2.out
              rw [hvx] at hx
              simp only at hx
              have hS7 := HS6.out.next HA.out.az HA.out.ca hM7
              have HX := Lib.hid hx
              clear hx hM7 hvx
              have d1 := freeH hS7.ab 1
              have d2 := cellH hS7.ab 1
              have hS8 := hS7.set HA.out.ca (.string y)
              obtain ⟨g0, g1, k0, k1, m0, m1, z0, z1, hfin⟩ := hS8.done HA.out
              have HF := Lib.hid hfin
              clear hS7 hS8 hfin
              go_wp2_with fail
              refine bodyPost_ret (v := .agg #[.string x, .string y]) (by simp [results, Tryz.results62, go_sem, z0, z1]) rfl ?_
              rw [HX.out]
              exact ⟨rfl, HF.out⟩
          · have h61b : (bt s q == 61) = false := by simpa using h61
            rw [h61b] at hi61
            have hR2 := HRR.out
            rw [if_neg h61] at hR2
            have HX := Lib.hid hR2
            clear hR2 h61 h61b
            go_wp2_with fail
            refine hbd.mono ?_
            rintro en w' ⟨rfl, rfl⟩
            go_wp2_with fail
            refine hi61.mono ?_
            rintro en w5 ⟨rfl, hB5⟩
            have hS5 := HS.out.on HA.out.az HA.out.ca hB5
            have d1 := hS5.scn.cell1
            have hwf := wrong_first hS5.scn 140 (q : Int)
            have HS5 := Lib.hid hS5
            clear hS5 hB5 hi61 hbd
            go_wp2_with fail
            refine hwf.mono ?_
            rintro en w7 ⟨rfl, hw7⟩
            have hS7 : AtS w3 cb rb ab s q 140 (q : Int) c4 c5 c6 c7 (.string x) (.string ⟨#[]⟩) w7 := by
              rw [← hw7]
              exact HS5.out.next HA.out.az HA.out.ca ⟨HS5.out.scn.mark 140 (q : Int), ((KeepX.refl _ cb _).setCell 2 (.int .i64 140)).setCell 3 (.int .i64 (q : Int))⟩
            have hbd7 := bad_yes hS7.scn (by decide)
            clear hwf hw7 d1
            go_wp2_with fail
            refine hbd7.mono ?_
            rintro en w' ⟨rfl, rfl⟩
            clear hbd7
            obtain ⟨g0, g1, k0, k1, m0, m1, z0, z1, hfin⟩ := hS7.done HA.out
            have HF := Lib.hid hfin
            clear hS7 hfin
            go_wp2_with fail
            refine bodyPost_ret (v := .agg #[.string x, .string ⟨#[]⟩]) (by simp [results, Tryz.results62, go_sem, z0, z1]) rfl ?_
            rw [HX.out]
            exact ⟨by decide, ⟨(x, ⟨#[]⟩), rfl⟩, q, h2, HF.out⟩
        · have hbd := bad_yes hS.scn he
          have HX := Lib.hid hx; have HE := Lib.hid he; have hS7 := hS
          clear hx he hS HST hlt hi
          go_wp2_with fail
          refine hbd.mono ?_
          rintro en w' ⟨rfl, rfl⟩
          go_wp2_with fail
          refine hbd.mono ?_
          rintro en w' ⟨rfl, rfl⟩
          clear hbd
          obtain ⟨g0, g1, k0, k1, m0, m1, z0, z1, hfin⟩ := hS7.done HA.out
          have HF := Lib.hid hfin
          clear hS7 hfin
          go_wp2_with fail
          refine bodyPost_ret (v := .agg #[.string x, .string ⟨#[]⟩]) (by simp [results, Tryz.results62, go_sem, z0, z1]) rfl ?_
          rw [HX.out]
          exact ⟨HE.out, ⟨(x, ⟨#[]⟩), rfl⟩, q, hq2, HF.out⟩
end
end Go.Proofs.YtnmpbphnfiiafaaGreatDoor
