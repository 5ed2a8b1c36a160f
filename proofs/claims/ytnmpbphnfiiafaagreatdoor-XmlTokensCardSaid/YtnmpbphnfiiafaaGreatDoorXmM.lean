/-
  The reader of files: what may stand around the element.
-/
import Derived.Test.YtnmpbphnfiiafaaGreatDoorXmC
namespace Go.Proofs.YtnmpbphnfiiafaaGreatDoor
open Go.RowKit Go.PlainAid

theorem cmtF_in {s : ByteArray} : ∀ {f p q : Nat}, cmtF s f p = .ok q () → p ≤ s.size → p ≤ q ∧ q ≤ s.size
  | 0, p, q, h, _ => by simp [cmtF] at h
  | f + 1, p, q, h, hp => by
    unfold cmtF at h
    split at h
    · rename_i h2
      split at h
      · rename_i h62
        injection h with h
        have := wdAt_in (s := s) (l := [45, 45, 62]) (p := p) (by rw [wd_three s p h2]; simpa using h62) (by decide) hp
        simp at this
        omega
      · cases h
    · split at h
      · rename_i hr
        have hlt := rChar_in hr
        have h1 := wd_in s p hlt
        have := cmtF_in h h1
        omega
      · cases h
theorem cmtX_in {s : ByteArray} {p q : Nat} (h : cmtX s p = .ok q ()) (hc : isCmt s p = true) (hp : p ≤ s.size) : p < q ∧ q ≤ s.size := by
  have h4 := wdAt_in (s := s) (l := [60, 33, 45, 45]) (p := p) hc (by decide) hp
  simp at h4
  have := cmtF_in h h4
  omega
theorem miscF_blank {s : ByteArray} {f p : Nat} (h : p < blk s p) : miscF s (f + 1) p = miscF s f (blk s p) := by
  conv => lhs; unfold miscF
  rw [if_pos h]
theorem miscF_stop {s : ByteArray} {f p : Nat} (h : ¬ p < blk s p) (h2 : isCmt s p = false) : miscF s (f + 1) p = .ok p () := by
  conv => lhs; unfold miscF
  rw [if_neg h, if_neg (by rw [h2]; simp)]
theorem miscF_cmt {s : ByteArray} {f p : Nat} (h : ¬ p < blk s p) (h2 : isCmt s p = true) : miscF s (f + 1) p = match cmtX s p with
    | .bad e a => .bad e a
    | .ok q _ => miscF s f q := by
  conv => lhs; unfold miscF
  rw [if_neg h, if_pos h2]
  cases cmtX s p <;> rfl

set_option maxRecDepth 100000 in
set_option maxHeartbeats 4000000 in
theorem misc_any {rb : Nat} {s : ByteArray} {at_ : Nat} {cs : Array Value} {w : World} (h : Rdr rb s at_ cs w) (ha : at_ ≤ s.size) (hz : s.size ≤ 1000000000000000) (hT : ∀ W, KeepX w.heap.size rb w W → Tabs W) :
    Calls Tryz.prog 42 #[.pointer (some ⟨rb, 0, none⟩)] w fun en w' => StepEnd (miscX s at_) (fun _ => .tuple #[]) rb s cs w en w' := by
  have HM0 := Lib.hid (h.moved (Below.refl _ _))
  have HT := Lib.hid hT
  clear h hT
  go_enter Tryz.func42, Tryz.ntmps42
  go_wp2_with fail
  go_loopg [] (s.size + 1 - at_) (fun f wx => ∃ p g : Nat, f + p = s.size + 1 ∧ p ≤ s.size ∧ s.size < p + g ∧ miscX s at_ = miscF s g p ∧ Moved rb s cs w p wx)
  case atStart => exact ⟨at_, s.size + 1 - at_, by omega, ha, by omega, rfl, HM0.out⟩
  case round =>
    obtain ⟨p, g, hg, hp, hgf, hb, hM⟩ := hrel
    obtain ⟨g, rfl⟩ : ∃ k, g = k + 1 := ⟨g - 1, by omega⟩
    have HG := Lib.hid hg; have HM := Lib.hid hM; have HGF := Lib.hid hgf
    have hbl := blanks_any hM.1 hp hz
    obtain ⟨q, hq⟩ : ∃ q, blk s p = q := ⟨_, rfl⟩
    have hqs := blk_le s p hp
    have hqp := blk_ge s p
    rw [hq] at hbl hqs hqp
    by_cases hlt : p < q
    · have he := hb.trans (miscF_blank (by rw [hq]; exact hlt))
      rw [hq] at he
      rw [decide_eq_true hlt] at hbl
      have HE := Lib.hid he; have HLT := Lib.hid hlt; have HQS := Lib.hid hqs
      clear he hlt hb hM hg hq hqp hqs
      go_wp2_with fail
      refine hbl.mono ?_
      rintro e w1 ⟨rfl, hM1⟩
      have HM1 := Lib.hid (HM.out.trans hM1)
      clear hM1 hbl
      go_wp2_with fail
      go_roundg (s.size + 1 - q)
      case rel => exact ⟨q, g, by have := HQS.out; omega, HQS.out, by have := HGF.out; have := HLT.out; omega, HE.out, HM1.out⟩
      case measure => have := HG.out; have := HLT.out; have := HQS.out; omega
    · obtain rfl : q = p := by omega
      have hnb : ¬ q < blk s q := by rw [hq]; omega
      rw [decide_eq_false hlt] at hbl
      have HNB := Lib.hid hnb; have HB := Lib.hid hb
      clear hlt hqp hqs hq hnb hb hM hg
      go_wp2_with fail
      refine hbl.mono ?_
      rintro e w1 ⟨rfl, hM1⟩
      have hM2 := HM.out.trans hM1
      have hco := comments_any hM2.1 hp hz (fun W hW => HT.out W (hM2.2.trans (hW.mono hM2.2.size)))
      have HM2 := Lib.hid hM2
      clear hM1 hbl hM2
      go_wp2_with fail
      refine hco.mono ?_
      rintro e w2 (⟨hc, rfl, hM3⟩ | ⟨hc, hS⟩)
      · have he := HB.out.trans (miscF_stop HNB.out hc)
        have hM4 := HM2.out.trans hM3
        have HE := Lib.hid he; have HM4 := Lib.hid hM4
        clear hc he hM3 hM4 hco
        go_wp2_with fail
        go_end0
        rw [HE.out]
        exact ⟨rfl, HM4.out⟩
      · have he := HB.out.trans (miscF_cmt HNB.out hc)
        cases hx : cmtX s q with
        | bad er a =>
          rw [hx] at hS he
          obtain ⟨rfl, hK⟩ := hS
          have hK2 := HM2.out.2.trans (hK.mono HM2.out.2.size)
          have HE := Lib.hid he; have HK := Lib.hid hK2
          clear hc he hx hK hK2 hco
          go_wp2_with fail
          refine ⟨rfl, ?_⟩
          rw [HE.out]
          exact ⟨rfl, HK.out⟩
        | ok q2 u =>
          have hin := cmtX_in hx hc hp
          rw [hx] at hS he
          obtain ⟨rfl, hM3⟩ := hS
          have hM4 := HM2.out.trans hM3
          have HE := Lib.hid he; have HM4 := Lib.hid hM4; have HIN := Lib.hid hin
          clear hc he hx hM3 hM4 hco hin
          go_wp2_with fail
          go_roundg (s.size + 1 - q2)
          case rel => exact ⟨q2, g, by have := HIN.out; omega, HIN.out.2, by have := HGF.out; have := HIN.out; omega, HE.out, HM4.out⟩
          case measure => have := HG.out; have := HIN.out; omega
end Go.Proofs.YtnmpbphnfiiafaaGreatDoor
