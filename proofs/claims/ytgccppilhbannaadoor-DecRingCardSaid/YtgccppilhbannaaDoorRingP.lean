/-
  Plain: sums and products in any order come to the same decimals; what was added is taken back.
-/
import Derived.Test.YtgccppilhbannaaDoorTot
namespace Go.Proofs.YtgccppilhbannaaDoor
open Go.RowKit Go.PlainAid

theorem to_is {n : Bool} {d : ByteArray} {k : Int} (h : rightB n d k = true) : ∃ K : Nat, k = K ∧ Is n d K (sv n (dval d)) := by
  have e := right_nat h
  refine ⟨k.toNat, e.symm, ?_, rfl⟩
  rw [e]
  exact h
theorem ring_add {n1 : Bool} {d1 : ByteArray} {k1 : Int} {n2 : Bool} {d2 : ByteArray} {k2 : Int} {n3 : Bool} {d3 : ByteArray} {k3 : Int} {ab bc : Bool × ByteArray × Int × Int}
    (hab : addT n1 d1 k1 n2 d2 k2 = ab) (hbc : addT n2 d2 k2 n3 d3 k3 = bc) (he : ab.2.2.2 = 0) (hf : bc.2.2.2 = 0) :
    addT ab.1 ab.2.1 ab.2.2.1 n3 d3 k3 = addT n1 d1 k1 bc.1 bc.2.1 bc.2.2.1 := by
  rw [← hab] at he
  rw [← hbc] at hf
  obtain ⟨r1, r2⟩ := addT_right he
  obtain ⟨_, r3⟩ := addT_right hf
  obtain ⟨a, rfl, i1⟩ := to_is r1
  obtain ⟨b, rfl, i2⟩ := to_is r2
  obtain ⟨c, rfl, i3⟩ := to_is r3
  rw [addT_is i1 i2] at hab he
  rw [addT_is i2 i3] at hbc hf
  obtain ⟨n4, d4, e4, i4⟩ := madeZ_is he
  obtain ⟨n5, d5, e5, i5⟩ := madeZ_is hf
  rw [e4] at hab
  rw [e5] at hbc
  subst hab
  subst hbc
  show addT n4 d4 _ n3 d3 _ = addT n1 d1 _ n5 d5 _
  rw [addT_is i4 i3, addT_is i1 i5]
  obtain ⟨K, hK⟩ : ∃ K, max (max a b) c = K := ⟨_, rfl⟩
  have hK2 : max a (max b c) = K := by omega
  rw [hK, hK2, Int.add_mul, Int.add_mul, Int.mul_assoc, Int.mul_assoc, Int.mul_assoc, Int.mul_assoc, pow_up (by omega) (by omega), pow_up (by omega) (by omega), pow_up (by omega) (by omega), pow_up (by omega) (by omega), Int.add_assoc]
theorem ring_back {n1 : Bool} {d1 : ByteArray} {k1 : Int} {n2 : Bool} {d2 : ByteArray} {k2 : Int} {ab q : Bool × ByteArray × Int × Int}
    (hab : addT n1 d1 k1 n2 d2 k2 = ab) (he : ab.2.2.2 = 0) (hq : subT ab.1 ab.2.1 ab.2.2.1 n2 d2 k2 = q) (hi : q.2.2.2 = 0) (w : World) :
    Calls Tryd.prog 30 #[.agg #[.bool q.1, .string q.2.1, .int .i64 q.2.2.1], .agg #[.bool n1, .string d1, .int .i64 k1]] w fun e w' => e = .returned (.tuple #[.int .i64 0, .int .i64 0]) ∧ Below w.heap.size w w' := by
  rw [← hab] at he
  obtain ⟨r1, r2⟩ := addT_right he
  obtain ⟨a, rfl, i1⟩ := to_is r1
  obtain ⟨b, rfl, i2⟩ := to_is r2
  rw [addT_is i1 i2] at hab he
  obtain ⟨n4, d4, e4, i4⟩ := madeZ_is he
  rw [e4] at hab
  subst hab
  rw [← hq] at hi
  change (subT n4 d4 _ n2 d2 _).2.2.2 = 0 at hi
  change subT n4 d4 _ n2 d2 _ = q at hq
  rw [subT_is i4 i2] at hi hq
  obtain ⟨n5, d5, e5, i5⟩ := madeZ_is hi
  have e2 : max (max a b) b = max a b := by omega
  rw [e2] at i5
  rw [e5, e2] at hq
  subst hq
  have h := compare_yes i5.1 i1.1 w
  rw [cmp_is i5 i1] at h
  have e : max (max a b) a = max a b := by omega
  rw [e, Nat.sub_self, Int.pow_zero, Int.mul_one, Int.mul_one, Int.neg_mul, Int.add_assoc, Int.add_right_neg, Int.add_zero, cmpZ_self] at h
  dsimp only
  exact h
theorem mulT_right {n1 : Bool} {d1 : ByteArray} {k1 : Int} {n2 : Bool} {d2 : ByteArray} {k2 : Int} (h : (mulT n1 d1 k1 n2 d2 k2).2.2.2 = 0) : rightB n1 d1 k1 = true ∧ rightB n2 d2 k2 = true := by
  unfold mulT at h
  by_cases hc : rightB n1 d1 k1 = true ∧ rightB n2 d2 k2 = true
  · exact hc
  · rw [if_neg hc, badD_err] at h
    cases h
theorem ring_mul {n1 : Bool} {d1 : ByteArray} {k1 : Int} {n2 : Bool} {d2 : ByteArray} {k2 : Int} {n3 : Bool} {d3 : ByteArray} {k3 : Int} {p m : Bool × ByteArray × Int × Int}
    (hp : mulT n1 d1 k1 n2 d2 k2 = p) (hm : mulT n2 d2 k2 n3 d3 k3 = m) (he : p.2.2.2 = 0) (hf : m.2.2.2 = 0) :
    mulT n1 d1 k1 m.1 m.2.1 m.2.2.1 = mulT p.1 p.2.1 p.2.2.1 n3 d3 k3 := by
  rw [← hp] at he
  rw [← hm] at hf
  obtain ⟨r1, r2⟩ := mulT_right he
  obtain ⟨_, r3⟩ := mulT_right hf
  obtain ⟨a, rfl, i1⟩ := to_is r1
  obtain ⟨b, rfl, i2⟩ := to_is r2
  obtain ⟨c, rfl, i3⟩ := to_is r3
  rw [mulT_is i1 i2] at hp he
  rw [mulT_is i2 i3] at hm hf
  obtain ⟨n4, d4, e4, i4⟩ := madeZ_is he
  obtain ⟨n5, d5, e5, i5⟩ := madeZ_is hf
  rw [e4] at hp
  rw [e5] at hm
  subst hp
  subst hm
  show mulT n1 d1 _ n5 d5 _ = mulT n4 d4 _ n3 d3 _
  rw [mulT_is i4 i3, mulT_is i1 i5, Int.mul_assoc, Nat.add_assoc]
end Go.Proofs.YtgccppilhbannaaDoor
