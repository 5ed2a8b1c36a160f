/-
  The reader of files: comments, and what may stand around the element.
  The reader of files: what may stand around the element.
  References, plain: the first semicolon, digits, what is left of a text.
  The reader of files: references.
-/
import Derived.Test.YtdipbfchlopeaaaGreatDoorXnB
import Derived.Lib.IndexMore
namespace Go.Proofs.YtdipbfchlopeaaaGreatDoor
section
open Go.RowKit Go.PlainAid

theorem drop_list (s : ByteArray) (p : Nat) : (s.extract p s.size).data.toList = s.data.toList.drop p := by
  rw [ByteArray.data_extract, Array.toList_extract]
  simp only [List.extract_eq_take_drop]
  rw [List.take_of_length_le]
  rw [List.length_drop, Array.length_toList]
  exact Nat.le_refl _
theorem prefix_wd (s : ByteArray) : ∀ (l : List UInt8) (p : Nat), (∀ c ∈ l, c ≠ 0) → l.isPrefixOf (s.data.toList.drop p) = wdAt s p (l.map fun c => (c.toNat : Int))
  | [], p, _ => by simp [wdAt]
  | c :: l, p, h => by
    have hc : c ≠ 0 := h c (by simp)
    have hc0 : (c.toNat : Int) ≠ 0 := fun e => hc (by
      have : c.toNat = 0 := by omega
      exact UInt8.toNat_inj.1 this)
    by_cases hp : p < s.size
    · have hp' : p < s.data.toList.length := by rw [Array.length_toList]; exact hp
      rw [List.drop_eq_getElem_cons hp']
      simp only [List.isPrefixOf, List.map_cons, wdAt]
      rw [prefix_wd s l (p + 1) (fun x hx => h x (by simp [hx]))]
      congr 1
      have e : bt s p = ((s.data.toList[p]'hp').toNat : Int) := by
        rw [← get_bt s p hp]
        rfl
      rw [e]
      by_cases hx : c = s.data.toList[p]'hp'
      · rw [hx]
        simp
      · have : ((s.data.toList[p]'hp').toNat : Int) ≠ (c.toNat : Int) := fun e => hx (by
          have : (s.data.toList[p]'hp').toNat = c.toNat := by omega
          exact (UInt8.toNat_inj.1 this).symm)
        rw [show (c == s.data.toList[p]'hp') = false by simpa using hx, show (((s.data.toList[p]'hp').toNat : Int) == (c.toNat : Int)) = false by simpa using this]
    · rw [List.drop_of_length_le (by rw [Array.length_toList]; show s.size ≤ p; omega)]
      simp only [List.isPrefixOf, List.map_cons, wdAt]
      rw [bt_end s (by omega), show ((0 : Int) == (c.toNat : Int)) = false by simpa using fun e => hc0 e.symm]
      rfl
/-- strings.HasPrefix of what is left of a text. -/
theorem prefix_at (s : ByteArray) (p : Nat) (l : List UInt8) (h : ∀ c ∈ l, c ≠ 0) (w : World) :
    Calls Tryz.prog 33 #[.string (s.extract p s.size), .string ⟨l.toArray⟩] w fun e w' => e = .returned (.bool (wdAt s p (l.map fun c => (c.toNat : Int)))) ∧ w = w' := by
  refine (Tryz.strings_HasPrefix _ _ w).mono fun e w' ⟨h1, h2⟩ => ⟨?_, h2.symm⟩
  rw [h1, drop_list]
  exact congrArg (fun b => Ending.returned (.bool b)) (prefix_wd s l p h)
theorem rn_end (s : ByteArray) (p : Nat) (h : s.size ≤ p) : rChar (rn s p) = false := by
  unfold rn formS
  rw [bt_end s h]
  unfold formI
  rw [if_pos (by decide)]
  decide
theorem rChar_in {s : ByteArray} {p : Nat} (h : rChar (rn s p) = true) : p < s.size := by
  by_cases hp : p < s.size
  · exact hp
  · rw [rn_end s p (by omega)] at h
    cases h
/-- What utf.At tells of the rune there: its bytes' number only where there is one. -/
theorem at_char (s : ByteArray) (p : Nat) (w : World) (hT : Tabs w) :
    Calls Tryz.prog 95 #[.string s, .int .i64 (p : Int)] w fun e w' => (∃ r n : Int, e = .returned (.tuple #[.int .i32 r, .int .i64 n]) ∧ rChar r = rChar (rn s p) ∧ (p < s.size → r = rn s p ∧ n = wd s p)) ∧ Below w.heap.size w w' := by
  refine (at_any s p w hT).mono fun e w' ⟨h1, h2⟩ => ⟨⟨_, _, h1, ?_, ?_⟩, h2⟩
  · by_cases hp : p < s.size
    · unfold formZ
      rw [if_neg (by omega), Int.toNat_natCast]
      rfl
    · unfold formZ
      rw [if_pos (by omega), rn_end s p (by omega)]
      decide
  · intro hp
    unfold formZ
    rw [if_neg (by omega), Int.toNat_natCast]
    exact ⟨rfl, formS_wd s p⟩
theorem cmtF_end {s : ByteArray} {f p : Nat} (h : wdAt s p [45, 45] = true) : cmtF s (f + 1) p = if bt s (p + 2) = 62 then .ok (p + 3) () else .bad 140 p := by
  conv => lhs; unfold cmtF
  rw [if_pos h]
theorem cmtF_go {s : ByteArray} {f p : Nat} (h : wdAt s p [45, 45] = false) (h2 : rChar (rn s p) = true) : cmtF s (f + 1) p = cmtF s f (p + wd s p) := by
  conv => lhs; unfold cmtF
  rw [if_neg (by rw [h]; simp), if_pos h2]
theorem cmtF_bad {s : ByteArray} {f p : Nat} (h : wdAt s p [45, 45] = false) (h2 : rChar (rn s p) = false) : cmtF s (f + 1) p = .bad 140 p := by
  conv => lhs; unfold cmtF
  rw [if_neg (by rw [h]; simp), if_neg (by rw [h2]; simp)]
theorem wdAt_in {s : ByteArray} : ∀ {l : List Int} {p : Nat}, wdAt s p l = true → (∀ c ∈ l, c ≠ 0) → p ≤ s.size → p + l.length ≤ s.size
  | [], p, _, _, hp => by simpa using hp
  | c :: l, p, h, hc, hp => by
    simp only [wdAt, Bool.and_eq_true, beq_iff_eq] at h
    have hlt : p < s.size := by
      by_cases hp : p < s.size
      · exact hp
      · rw [bt_end s (by omega)] at h
        exact absurd h.1.symm (hc c (by simp))
    have := wdAt_in h.2 (fun x hx => hc x (by simp [hx])) hlt
    simp
    omega
theorem wd_three (s : ByteArray) (p : Nat) (h : wdAt s p [45, 45] = true) : wdAt s p [45, 45, 62] = decide (bt s (p + 2) = 62) := by
  simp only [wdAt, Bool.and_true, Bool.and_eq_true, beq_iff_eq] at h ⊢
  rw [h.1, h.2]
  simp
  rfl

set_option maxRecDepth 100000 in
set_option maxHeartbeats 8000000 in
theorem comments_any {rb : Nat} {s : ByteArray} {at_ : Nat} {cs : Array Value} {w : World} (h : Rdr rb s at_ cs w) (ha : at_ ≤ s.size) (hz : s.size ≤ 1000000000000000) (hT : ∀ W, KeepX w.heap.size rb w W → Tabs W) :
    Calls Tryz.prog 69 #[.pointer (some ⟨rb, 0, none⟩)] w fun en w' => (isCmt s at_ = false ∧ en = .returned (.bool false) ∧ Moved rb s cs w at_ w') ∨ (isCmt s at_ = true ∧ StepEnd (cmtX s at_) (fun _ => .bool true) rb s cs w en w') := by
  have hSd : w.drew.cell? ⟨rb, 0, none⟩ = some (Value.string s) ∧ w.drew.cell? ⟨rb, 1, none⟩ = some (Value.int .i64 (at_ : Int)) ∧ Below w.heap.size w w.drew :=
    ⟨(h.on (Below.refl _ _).drew).cell0, (h.on (Below.refl _ _).drew).cell1, (Below.refl _ _).drew⟩
  have hMd := h.moved (Below.refl w.heap.size w).drew
  have hp4 := fun W => prefix_at s at_ [60, 33, 45, 45] (by decide) W
  have ha0 : (0 : Int) ≤ at_ := by omega
  have has : (at_ : Int) ≤ s.size := by omega
  have HT := Lib.hid hT; have HMD := Lib.hid hMd
  clear hT
  cases hc : isCmt s at_ with
  | false =>
    have hc' : wdAt s at_ ([60, 33, 45, 45].map fun c : UInt8 => (c.toNat : Int)) = false := hc
    rw [hc'] at hp4
    clear hc hc' h hMd
    go_enter Tryz.func69, Tryz.ntmps69
    go_upto_region 1 with fail
    refine wp_region_held_drew (S := fun w' => w'.cell? ⟨rb, 0, none⟩ = some (Value.string s) ∧ w'.cell? ⟨rb, 1, none⟩ = some (Value.int .i64 (at_ : Int)) ∧ Below w.heap.size w w') (by kernel_rfl) (hSd) (fun hHeld => ?_)
    refine wpAnyH_take (i := 0) (v := ?_) rfl (by kernel_rfl) (by kernel_rfl) (by kernel_rfl) (fun _ _ _ h => h) (Or.inl ⟨by rfl, ?_⟩) hHeld ?_
    rotate_left
    · intro w hSw; (try dsimp only at hSw); first | (go_simp; done) | (go_simp; with_reducible rfl)
    try simp only [Act.put, List.setIfInBounds_toArray, List.set_cons_zero, List.set_cons_succ, List.getElem_toArray, List.getElem_cons_zero]
    refine wpAnyH_take (i := 1) (v := ?_) rfl (by kernel_rfl) (by kernel_rfl) (by kernel_rfl) (fun _ _ _ h => h) (Or.inl ⟨by rfl, ?_⟩) hHeld ?_
    rotate_left
    · intro w hSw; (try dsimp only at hSw); first | (go_simp; done) | (go_simp; with_reducible rfl)
    try simp only [Act.put, List.setIfInBounds_toArray, List.set_cons_zero, List.set_cons_succ, List.getElem_toArray, List.getElem_cons_zero, List.getElem_cons_succ]
    refine wpAnyH_take (i := 2) (v := ?_) rfl (by kernel_rfl) (by kernel_rfl) (by kernel_rfl) (fun _ _ _ h => h) (Or.inl ⟨by rfl, ?_⟩) hHeld ?_
    rotate_left
    · intro w hSw; (try dsimp only at hSw); first | (go_simp; done) | (go_simp; with_reducible rfl)
    try simp only [Act.put, List.setIfInBounds_toArray, List.set_cons_zero, List.set_cons_succ, List.getElem_toArray, List.getElem_cons_zero, List.getElem_cons_succ]
    refine wpAnyH_take (i := 3) (v := ?_) rfl (by kernel_rfl) (by kernel_rfl) (by kernel_rfl) (fun _ _ _ h => h) (Or.inl ⟨by rfl, ?_⟩) hHeld ?_
    rotate_left
    · intro w hSw; (try dsimp only at hSw); first | (go_simp; done) | (go_simp; with_reducible rfl)
    try simp only [Act.put, List.setIfInBounds_toArray, List.set_cons_zero, List.set_cons_succ, List.getElem_toArray, List.getElem_cons_zero, List.getElem_cons_succ]
    refine wpAnyH_take (i := 4) (v := ?_) rfl (by kernel_rfl) (by kernel_rfl) (by kernel_rfl) (fun _ _ _ h => h) (Or.inl ⟨by rfl, ?_⟩) hHeld ?_
    rotate_left
    · intro w hSw; (try dsimp only at hSw); first | (go_simp; done) | (go_simp; with_reducible rfl)
    try simp only [Act.put, List.setIfInBounds_toArray, List.set_cons_zero, List.set_cons_succ, List.getElem_toArray, List.getElem_cons_zero, List.getElem_cons_succ]
    refine wpAnyH_take (i := 5) (v := ?_) rfl (by kernel_rfl) (by kernel_rfl) (by kernel_rfl) (fun _ _ _ h => h) (Or.inl ⟨by rfl, ?_⟩) hHeld ?_
    rotate_left
    · intro w hSw; (try dsimp only at hSw); first | (go_simp; done) | (go_simp; with_reducible rfl)
    try simp only [Act.put, List.setIfInBounds_toArray, List.set_cons_zero, List.set_cons_succ, List.getElem_toArray, List.getElem_cons_zero, List.getElem_cons_succ]
    refine wpAnyH_take (i := 6) (v := ?_) rfl (by kernel_rfl) (by kernel_rfl) (by kernel_rfl) (fun _ _ _ h => h) (Or.inl ⟨by rfl, ?_⟩) hHeld ?_
    rotate_left
    · intro w hSw; (try dsimp only at hSw); first | (go_simp; done) | (go_simp; with_reducible rfl)
    try simp only [Act.put, List.setIfInBounds_toArray, List.set_cons_zero, List.set_cons_succ, List.getElem_toArray, List.getElem_cons_zero, List.getElem_cons_succ]
    refine wpAnyH_take (i := 7) (v := ?_) rfl (by kernel_rfl) (by kernel_rfl) (by kernel_rfl) (fun _ _ _ h => h) (Or.inl ⟨by rfl, ?_⟩) hHeld ?_
    rotate_left
    · intro w hSw; (try dsimp only at hSw); first | (go_simp; done) | (go_simp; with_reducible rfl)
    try simp only [Act.put, List.setIfInBounds_toArray, List.set_cons_zero, List.set_cons_succ, List.getElem_toArray, List.getElem_cons_zero, List.getElem_cons_succ]
    refine wpAnyH_take (i := 8) (v := ?_) rfl (by kernel_rfl) (by kernel_rfl) (by kernel_rfl) (fun _ _ _ h => h) (Or.inl ⟨by rfl, ?_⟩) hHeld ?_
    rotate_left
    · intro w hSw; (try dsimp only at hSw); first | (go_simp; done) | (go_simp; with_reducible rfl)
    try simp only [Act.put, List.setIfInBounds_toArray, List.set_cons_zero, List.set_cons_succ, List.getElem_toArray, List.getElem_cons_zero, List.getElem_cons_succ]
    refine wpAnyH_ready (rs := [9]) (by kernel_rfl) (by simp) ?_
    refine AllReadyH.cons rfl (fun K hK => ?_) AllReadyH.nil
    go_simp
    go_wp2_with (go_at_call 33; refine (hp4 _).mono ?_; rintro e wy ⟨rfl, rfl⟩)
    refine hK.out _ _ (hSd) (fun hHeld => ?_)
    clear hK K
    refine wpAnyH_take (i := 10) (v := ?_) rfl (by kernel_rfl) (by kernel_rfl) (by kernel_rfl) (fun _ _ _ h => h) (Or.inl ⟨by rfl, ?_⟩) hHeld ?_
    rotate_left
    · intro w hSw; (try dsimp only at hSw); first | (go_simp; done) | (go_simp; with_reducible rfl)
    try simp only [Act.put, List.setIfInBounds_toArray, List.set_cons_zero, List.set_cons_succ, List.getElem_toArray, List.getElem_cons_zero, List.getElem_cons_succ]
    refine wpAnyH_done (by kernel_rfl) ?_ _
    clear hHeld hSd
    generalize w.drew = w4 at *
    go_wp2_with fail
    go_ret
    exact .inl ⟨(by first | rfl | trivial), rfl, HMD.out⟩
  | true =>
    have hc' : wdAt s at_ ([60, 33, 45, 45].map fun c : UInt8 => (c.toNat : Int)) = true := hc
    have hin : at_ + 4 ≤ s.size := wdAt_in (l := [60, 33, 45, 45]) hc (by decide) ha
    rw [hc'] at hp4
    have d1 := hMd.1.cell1
    have d0 := hMd.1.blk.free 1
    have f1 : IntKind.i64.wrap ((at_ : Int) + 4) = ((at_ + 4 : Nat) : Int) := by rw [IntWalk.i64_in _ (by omega)]; omega
    have hMs := hMd.set (at_ + 4)
    have HMS := Lib.hid hMs
    have HIN := Lib.hid hin
    clear hc' h hMd hMs
    go_enter Tryz.func69, Tryz.ntmps69
    go_upto_region 1 with fail
    refine wp_region_held_drew (S := fun w' => w'.cell? ⟨rb, 0, none⟩ = some (Value.string s) ∧ w'.cell? ⟨rb, 1, none⟩ = some (Value.int .i64 (at_ : Int)) ∧ Below w.heap.size w w') (by kernel_rfl) (hSd) (fun hHeld => ?_)
    refine wpAnyH_take (i := 0) (v := ?_) rfl (by kernel_rfl) (by kernel_rfl) (by kernel_rfl) (fun _ _ _ h => h) (Or.inl ⟨by rfl, ?_⟩) hHeld ?_
    rotate_left
    · intro w hSw; (try dsimp only at hSw); first | (go_simp; done) | (go_simp; with_reducible rfl)
    try simp only [Act.put, List.setIfInBounds_toArray, List.set_cons_zero, List.set_cons_succ, List.getElem_toArray, List.getElem_cons_zero]
    refine wpAnyH_take (i := 1) (v := ?_) rfl (by kernel_rfl) (by kernel_rfl) (by kernel_rfl) (fun _ _ _ h => h) (Or.inl ⟨by rfl, ?_⟩) hHeld ?_
    rotate_left
    · intro w hSw; (try dsimp only at hSw); first | (go_simp; done) | (go_simp; with_reducible rfl)
    try simp only [Act.put, List.setIfInBounds_toArray, List.set_cons_zero, List.set_cons_succ, List.getElem_toArray, List.getElem_cons_zero, List.getElem_cons_succ]
    refine wpAnyH_take (i := 2) (v := ?_) rfl (by kernel_rfl) (by kernel_rfl) (by kernel_rfl) (fun _ _ _ h => h) (Or.inl ⟨by rfl, ?_⟩) hHeld ?_
    rotate_left
    · intro w hSw; (try dsimp only at hSw); first | (go_simp; done) | (go_simp; with_reducible rfl)
    try simp only [Act.put, List.setIfInBounds_toArray, List.set_cons_zero, List.set_cons_succ, List.getElem_toArray, List.getElem_cons_zero, List.getElem_cons_succ]
    refine wpAnyH_take (i := 3) (v := ?_) rfl (by kernel_rfl) (by kernel_rfl) (by kernel_rfl) (fun _ _ _ h => h) (Or.inl ⟨by rfl, ?_⟩) hHeld ?_
    rotate_left
    · intro w hSw; (try dsimp only at hSw); first | (go_simp; done) | (go_simp; with_reducible rfl)
    try simp only [Act.put, List.setIfInBounds_toArray, List.set_cons_zero, List.set_cons_succ, List.getElem_toArray, List.getElem_cons_zero, List.getElem_cons_succ]
    refine wpAnyH_take (i := 4) (v := ?_) rfl (by kernel_rfl) (by kernel_rfl) (by kernel_rfl) (fun _ _ _ h => h) (Or.inl ⟨by rfl, ?_⟩) hHeld ?_
    rotate_left
    · intro w hSw; (try dsimp only at hSw); first | (go_simp; done) | (go_simp; with_reducible rfl)
    try simp only [Act.put, List.setIfInBounds_toArray, List.set_cons_zero, List.set_cons_succ, List.getElem_toArray, List.getElem_cons_zero, List.getElem_cons_succ]
    refine wpAnyH_take (i := 5) (v := ?_) rfl (by kernel_rfl) (by kernel_rfl) (by kernel_rfl) (fun _ _ _ h => h) (Or.inl ⟨by rfl, ?_⟩) hHeld ?_
    rotate_left
    · intro w hSw; (try dsimp only at hSw); first | (go_simp; done) | (go_simp; with_reducible rfl)
    try simp only [Act.put, List.setIfInBounds_toArray, List.set_cons_zero, List.set_cons_succ, List.getElem_toArray, List.getElem_cons_zero, List.getElem_cons_succ]
    refine wpAnyH_take (i := 6) (v := ?_) rfl (by kernel_rfl) (by kernel_rfl) (by kernel_rfl) (fun _ _ _ h => h) (Or.inl ⟨by rfl, ?_⟩) hHeld ?_
    rotate_left
    · intro w hSw; (try dsimp only at hSw); first | (go_simp; done) | (go_simp; with_reducible rfl)
    try simp only [Act.put, List.setIfInBounds_toArray, List.set_cons_zero, List.set_cons_succ, List.getElem_toArray, List.getElem_cons_zero, List.getElem_cons_succ]
    refine wpAnyH_take (i := 7) (v := ?_) rfl (by kernel_rfl) (by kernel_rfl) (by kernel_rfl) (fun _ _ _ h => h) (Or.inl ⟨by rfl, ?_⟩) hHeld ?_
    rotate_left
    · intro w hSw; (try dsimp only at hSw); first | (go_simp; done) | (go_simp; with_reducible rfl)
    try simp only [Act.put, List.setIfInBounds_toArray, List.set_cons_zero, List.set_cons_succ, List.getElem_toArray, List.getElem_cons_zero, List.getElem_cons_succ]
    refine wpAnyH_take (i := 8) (v := ?_) rfl (by kernel_rfl) (by kernel_rfl) (by kernel_rfl) (fun _ _ _ h => h) (Or.inl ⟨by rfl, ?_⟩) hHeld ?_
    rotate_left
    · intro w hSw; (try dsimp only at hSw); first | (go_simp; done) | (go_simp; with_reducible rfl)
    try simp only [Act.put, List.setIfInBounds_toArray, List.set_cons_zero, List.set_cons_succ, List.getElem_toArray, List.getElem_cons_zero, List.getElem_cons_succ]
    refine wpAnyH_ready (rs := [9]) (by kernel_rfl) (by simp) ?_
    refine AllReadyH.cons rfl (fun K hK => ?_) AllReadyH.nil
    go_simp
    go_wp2_with (go_at_call 33; refine (hp4 _).mono ?_; rintro e wy ⟨rfl, rfl⟩)
    refine hK.out _ _ (hSd) (fun hHeld => ?_)
    clear hK K
    refine wpAnyH_take (i := 10) (v := ?_) rfl (by kernel_rfl) (by kernel_rfl) (by kernel_rfl) (fun _ _ _ h => h) (Or.inl ⟨by rfl, ?_⟩) hHeld ?_
    rotate_left
    · intro w hSw; (try dsimp only at hSw); first | (go_simp; done) | (go_simp; with_reducible rfl)
    try simp only [Act.put, List.setIfInBounds_toArray, List.set_cons_zero, List.set_cons_succ, List.getElem_toArray, List.getElem_cons_zero, List.getElem_cons_succ]
    refine wpAnyH_done (by kernel_rfl) ?_ _
    clear hHeld hSd
    generalize w.drew = w4 at *
    go_wp2_with fail
    clear d1 d0 hp4 f1
    go_loopg [] (s.size + 1 - at_) (fun f wx => ∃ p g : Nat, f + p = s.size + 5 ∧ at_ + 4 ≤ p ∧ p ≤ s.size ∧ s.size < p + g ∧ cmtX s at_ = cmtF s g p ∧ Moved rb s cs w p wx)
    case atStart => exact ⟨at_ + 4, s.size + 1 - at_, by omega, Nat.le_refl _, hin, by omega, rfl, HMS.out⟩
    case round =>
      obtain ⟨p, g, hg, hp4, hp, hgf, hb, hM⟩ := hrel
      obtain ⟨g, rfl⟩ : ∃ k, g = k + 1 := ⟨g - 1, by omega⟩
      have HG := Lib.hid hg; have HB := Lib.hid hb; have HM := Lib.hid hM; have HGF := Lib.hid hgf; have HP4 := Lib.hid hp4
      have hp0 : (0 : Int) ≤ p := by omega
      have hps : (p : Int) ≤ s.size := by omega
      have hSd : wr.drew.cell? ⟨rb, 0, none⟩ = some (Value.string s) ∧ wr.drew.cell? ⟨rb, 1, none⟩ = some (Value.int .i64 (p : Int)) ∧ Below wr.heap.size wr wr.drew :=
        ⟨(hM.1.on (Below.refl _ _).drew).cell0, (hM.1.on (Below.refl _ _).drew).cell1, (Below.refl _ _).drew⟩
      have hMd := hM.on (Below.refl wr.heap.size wr).drew
      have HMD := Lib.hid hMd
      have hp2 := fun W => prefix_at s p [45, 45] (by decide) W
      have hp3 := fun W => prefix_at s p [45, 45, 62] (by decide) W
      cases h2 : wdAt s p [45, 45] with
      | true =>
        have h2' : wdAt s p ([45, 45].map fun c : UInt8 => (c.toNat : Int)) = true := h2
        rw [h2'] at hp2
        have h3 : wdAt s p ([45, 45, 62].map fun c : UInt8 => (c.toNat : Int)) = decide (bt s (p + 2) = 62) := wd_three s p h2
        rw [h3] at hp3
        have he := hb.trans (cmtF_end h2)
        clear h2' h3 hb hM hMd hg
        by_cases h62 : bt s (p + 2) = 62
        · rw [if_pos h62] at he
          rw [decide_eq_true h62] at hp3
          have hin3 : p + 3 ≤ s.size := wdAt_in (l := [45, 45, 62]) (by rw [wd_three s p h2]; simpa using h62) (by decide) hp
          have HE := Lib.hid he; have HIN3 := Lib.hid hin3
          clear he h62 hin3 h2
          go_upto_region 4 with fail
          refine wp_region_held_drew (S := fun w' => w'.cell? ⟨rb, 0, none⟩ = some (Value.string s) ∧ w'.cell? ⟨rb, 1, none⟩ = some (Value.int .i64 (p : Int)) ∧ Below wr.heap.size wr w') (by kernel_rfl) (hSd) (fun hHeld => ?_)
          refine wpAnyH_take (i := 0) (v := ?_) rfl (by kernel_rfl) (by kernel_rfl) (by kernel_rfl) (fun _ _ _ h => h) (Or.inl ⟨by rfl, ?_⟩) hHeld ?_
          rotate_left
          · intro w hSw; (try dsimp only at hSw); first | (go_simp; done) | (go_simp; with_reducible rfl)
          try simp only [Act.put, List.setIfInBounds_toArray, List.set_cons_zero, List.set_cons_succ, List.getElem_toArray, List.getElem_cons_zero]
          refine wpAnyH_take (i := 1) (v := ?_) rfl (by kernel_rfl) (by kernel_rfl) (by kernel_rfl) (fun _ _ _ h => h) (Or.inl ⟨by rfl, ?_⟩) hHeld ?_
          rotate_left
          · intro w hSw; (try dsimp only at hSw); first | (go_simp; done) | (go_simp; with_reducible rfl)
          try simp only [Act.put, List.setIfInBounds_toArray, List.set_cons_zero, List.set_cons_succ, List.getElem_toArray, List.getElem_cons_zero, List.getElem_cons_succ]
          refine wpAnyH_take (i := 2) (v := ?_) rfl (by kernel_rfl) (by kernel_rfl) (by kernel_rfl) (fun _ _ _ h => h) (Or.inl ⟨by rfl, ?_⟩) hHeld ?_
          rotate_left
          · intro w hSw; (try dsimp only at hSw); first | (go_simp; done) | (go_simp; with_reducible rfl)
          try simp only [Act.put, List.setIfInBounds_toArray, List.set_cons_zero, List.set_cons_succ, List.getElem_toArray, List.getElem_cons_zero, List.getElem_cons_succ]
          refine wpAnyH_take (i := 3) (v := ?_) rfl (by kernel_rfl) (by kernel_rfl) (by kernel_rfl) (fun _ _ _ h => h) (Or.inl ⟨by rfl, ?_⟩) hHeld ?_
          rotate_left
          · intro w hSw; (try dsimp only at hSw); first | (go_simp; done) | (go_simp; with_reducible rfl)
          try simp only [Act.put, List.setIfInBounds_toArray, List.set_cons_zero, List.set_cons_succ, List.getElem_toArray, List.getElem_cons_zero, List.getElem_cons_succ]
          refine wpAnyH_take (i := 4) (v := ?_) rfl (by kernel_rfl) (by kernel_rfl) (by kernel_rfl) (fun _ _ _ h => h) (Or.inl ⟨by rfl, ?_⟩) hHeld ?_
          rotate_left
          · intro w hSw; (try dsimp only at hSw); first | (go_simp; done) | (go_simp; with_reducible rfl)
          try simp only [Act.put, List.setIfInBounds_toArray, List.set_cons_zero, List.set_cons_succ, List.getElem_toArray, List.getElem_cons_zero, List.getElem_cons_succ]
          refine wpAnyH_take (i := 5) (v := ?_) rfl (by kernel_rfl) (by kernel_rfl) (by kernel_rfl) (fun _ _ _ h => h) (Or.inl ⟨by rfl, ?_⟩) hHeld ?_
          rotate_left
          · intro w hSw; (try dsimp only at hSw); first | (go_simp; done) | (go_simp; with_reducible rfl)
          try simp only [Act.put, List.setIfInBounds_toArray, List.set_cons_zero, List.set_cons_succ, List.getElem_toArray, List.getElem_cons_zero, List.getElem_cons_succ]
          refine wpAnyH_take (i := 6) (v := ?_) rfl (by kernel_rfl) (by kernel_rfl) (by kernel_rfl) (fun _ _ _ h => h) (Or.inl ⟨by rfl, ?_⟩) hHeld ?_
          rotate_left
          · intro w hSw; (try dsimp only at hSw); first | (go_simp; done) | (go_simp; with_reducible rfl)
          try simp only [Act.put, List.setIfInBounds_toArray, List.set_cons_zero, List.set_cons_succ, List.getElem_toArray, List.getElem_cons_zero, List.getElem_cons_succ]
          refine wpAnyH_take (i := 7) (v := ?_) rfl (by kernel_rfl) (by kernel_rfl) (by kernel_rfl) (fun _ _ _ h => h) (Or.inl ⟨by rfl, ?_⟩) hHeld ?_
          rotate_left
          · intro w hSw; (try dsimp only at hSw); first | (go_simp; done) | (go_simp; with_reducible rfl)
          try simp only [Act.put, List.setIfInBounds_toArray, List.set_cons_zero, List.set_cons_succ, List.getElem_toArray, List.getElem_cons_zero, List.getElem_cons_succ]
          refine wpAnyH_take (i := 8) (v := ?_) rfl (by kernel_rfl) (by kernel_rfl) (by kernel_rfl) (fun _ _ _ h => h) (Or.inl ⟨by rfl, ?_⟩) hHeld ?_
          rotate_left
          · intro w hSw; (try dsimp only at hSw); first | (go_simp; done) | (go_simp; with_reducible rfl)
          try simp only [Act.put, List.setIfInBounds_toArray, List.set_cons_zero, List.set_cons_succ, List.getElem_toArray, List.getElem_cons_zero, List.getElem_cons_succ]
          refine wpAnyH_ready (rs := [9]) (by kernel_rfl) (by simp) ?_
          refine AllReadyH.cons rfl (fun K hK => ?_) AllReadyH.nil
          go_simp
          go_wp2_with (go_at_call 33; refine (hp2 _).mono ?_; rintro e wy ⟨rfl, rfl⟩)
          refine hK.out _ _ (hSd) (fun hHeld => ?_)
          clear hK K
          refine wpAnyH_take (i := 10) (v := ?_) rfl (by kernel_rfl) (by kernel_rfl) (by kernel_rfl) (fun _ _ _ h => h) (Or.inl ⟨by rfl, ?_⟩) hHeld ?_
          rotate_left
          · intro w hSw; (try dsimp only at hSw); first | (go_simp; done) | (go_simp; with_reducible rfl)
          try simp only [Act.put, List.setIfInBounds_toArray, List.set_cons_zero, List.set_cons_succ, List.getElem_toArray, List.getElem_cons_zero, List.getElem_cons_succ]
          refine wpAnyH_done (by kernel_rfl) ?_ _
          clear hHeld hSd
          have hSd : wr.drew.drew.cell? ⟨rb, 0, none⟩ = some (Value.string s) ∧ wr.drew.drew.cell? ⟨rb, 1, none⟩ = some (Value.int .i64 (p : Int)) ∧ Below wr.drew.heap.size wr.drew wr.drew.drew :=
            ⟨(HMD.out.1.on (Below.refl _ _).drew).cell0, (HMD.out.1.on (Below.refl _ _).drew).cell1, (Below.refl _ _).drew⟩
          have hMd := HMD.out.on (Below.refl wr.drew.heap.size wr.drew).drew
          have hwy := want_yes (.pointer (some ⟨rb, 0, none⟩)) wr.drew.drew
          generalize wr.drew = w5 at *
          go_upto_region 8 with fail
          refine wp_region_held_drew (S := fun w' => w'.cell? ⟨rb, 0, none⟩ = some (Value.string s) ∧ w'.cell? ⟨rb, 1, none⟩ = some (Value.int .i64 (p : Int)) ∧ Below w5.heap.size w5 w') (by kernel_rfl) (hSd) (fun hHeld => ?_)
          refine wpAnyH_take (i := 0) (v := ?_) rfl (by kernel_rfl) (by kernel_rfl) (by kernel_rfl) (fun _ _ _ h => h) (Or.inl ⟨by rfl, ?_⟩) hHeld ?_
          rotate_left
          · intro w hSw; (try dsimp only at hSw); first | (go_simp; done) | (go_simp; with_reducible rfl)
          try simp only [Act.put, List.setIfInBounds_toArray, List.set_cons_zero, List.set_cons_succ, List.getElem_toArray, List.getElem_cons_zero]
          refine wpAnyH_take (i := 1) (v := ?_) rfl (by kernel_rfl) (by kernel_rfl) (by kernel_rfl) (fun _ _ _ h => h) (Or.inl ⟨by rfl, ?_⟩) hHeld ?_
          rotate_left
          · intro w hSw; (try dsimp only at hSw); first | (go_simp; done) | (go_simp; with_reducible rfl)
          try simp only [Act.put, List.setIfInBounds_toArray, List.set_cons_zero, List.set_cons_succ, List.getElem_toArray, List.getElem_cons_zero, List.getElem_cons_succ]
          refine wpAnyH_take (i := 2) (v := ?_) rfl (by kernel_rfl) (by kernel_rfl) (by kernel_rfl) (fun _ _ _ h => h) (Or.inl ⟨by rfl, ?_⟩) hHeld ?_
          rotate_left
          · intro w hSw; (try dsimp only at hSw); first | (go_simp; done) | (go_simp; with_reducible rfl)
          try simp only [Act.put, List.setIfInBounds_toArray, List.set_cons_zero, List.set_cons_succ, List.getElem_toArray, List.getElem_cons_zero, List.getElem_cons_succ]
          refine wpAnyH_take (i := 3) (v := ?_) rfl (by kernel_rfl) (by kernel_rfl) (by kernel_rfl) (fun _ _ _ h => h) (Or.inl ⟨by rfl, ?_⟩) hHeld ?_
          rotate_left
          · intro w hSw; (try dsimp only at hSw); first | (go_simp; done) | (go_simp; with_reducible rfl)
          try simp only [Act.put, List.setIfInBounds_toArray, List.set_cons_zero, List.set_cons_succ, List.getElem_toArray, List.getElem_cons_zero, List.getElem_cons_succ]
          refine wpAnyH_take (i := 4) (v := ?_) rfl (by kernel_rfl) (by kernel_rfl) (by kernel_rfl) (fun _ _ _ h => h) (Or.inl ⟨by rfl, ?_⟩) hHeld ?_
          rotate_left
          · intro w hSw; (try dsimp only at hSw); first | (go_simp; done) | (go_simp; with_reducible rfl)
          try simp only [Act.put, List.setIfInBounds_toArray, List.set_cons_zero, List.set_cons_succ, List.getElem_toArray, List.getElem_cons_zero, List.getElem_cons_succ]
          refine wpAnyH_take (i := 5) (v := ?_) rfl (by kernel_rfl) (by kernel_rfl) (by kernel_rfl) (fun _ _ _ h => h) (Or.inl ⟨by rfl, ?_⟩) hHeld ?_
          rotate_left
          · intro w hSw; (try dsimp only at hSw); first | (go_simp; done) | (go_simp; with_reducible rfl)
          try simp only [Act.put, List.setIfInBounds_toArray, List.set_cons_zero, List.set_cons_succ, List.getElem_toArray, List.getElem_cons_zero, List.getElem_cons_succ]
          refine wpAnyH_take (i := 6) (v := ?_) rfl (by kernel_rfl) (by kernel_rfl) (by kernel_rfl) (fun _ _ _ h => h) (Or.inl ⟨by rfl, ?_⟩) hHeld ?_
          rotate_left
          · intro w hSw; (try dsimp only at hSw); first | (go_simp; done) | (go_simp; with_reducible rfl)
          try simp only [Act.put, List.setIfInBounds_toArray, List.set_cons_zero, List.set_cons_succ, List.getElem_toArray, List.getElem_cons_zero, List.getElem_cons_succ]
          refine wpAnyH_take (i := 7) (v := ?_) rfl (by kernel_rfl) (by kernel_rfl) (by kernel_rfl) (fun _ _ _ h => h) (Or.inl ⟨by rfl, ?_⟩) hHeld ?_
          rotate_left
          · intro w hSw; (try dsimp only at hSw); first | (go_simp; done) | (go_simp; with_reducible rfl)
          try simp only [Act.put, List.setIfInBounds_toArray, List.set_cons_zero, List.set_cons_succ, List.getElem_toArray, List.getElem_cons_zero, List.getElem_cons_succ]
          refine wpAnyH_take (i := 8) (v := ?_) rfl (by kernel_rfl) (by kernel_rfl) (by kernel_rfl) (fun _ _ _ h => h) (Or.inl ⟨by rfl, ?_⟩) hHeld ?_
          rotate_left
          · intro w hSw; (try dsimp only at hSw); first | (go_simp; done) | (go_simp; with_reducible rfl)
          try simp only [Act.put, List.setIfInBounds_toArray, List.set_cons_zero, List.set_cons_succ, List.getElem_toArray, List.getElem_cons_zero, List.getElem_cons_succ]
          refine wpAnyH_take (i := 9) (v := ?_) rfl (by kernel_rfl) (by kernel_rfl) (by kernel_rfl) (fun _ _ _ h => h) (Or.inl ⟨by rfl, ?_⟩) hHeld ?_
          rotate_left
          · intro w hSw; (try dsimp only at hSw); first | (go_simp; done) | (go_simp; with_reducible rfl)
          try simp only [Act.put, List.setIfInBounds_toArray, List.set_cons_zero, List.set_cons_succ, List.getElem_toArray, List.getElem_cons_zero, List.getElem_cons_succ]
          refine wpAnyH_ready (rs := [10]) (by kernel_rfl) (by simp) ?_
          refine AllReadyH.cons rfl (fun K hK => ?_) AllReadyH.nil
          go_simp
          go_wp2_with (go_at_call 33; refine (hp3 _).mono ?_; rintro e wy ⟨rfl, rfl⟩)
          refine hK.out _ _ (hSd) (fun hHeld => ?_)
          clear hK K
          refine wpAnyH_ready (rs := [11]) (by kernel_rfl) (by simp) ?_
          refine AllReadyH.cons rfl (fun K hK => ?_) AllReadyH.nil
          go_simp
          go_wp2_with (go_at_call 43; refine hwy.mono ?_; rintro e wy ⟨rfl, rfl⟩)
          refine hK.out _ _ (hSd) (fun hHeld => ?_)
          clear hK K
          refine wpAnyH_done (by kernel_rfl) ?_ _
          clear hHeld hSd hwy
          have d1 := hMd.1.cell1
          have d0 := hMd.1.blk.free 1
          have f1 : IntKind.i64.wrap ((p : Int) + 3) = ((p + 3 : Nat) : Int) := by rw [IntWalk.i64_in _ (by omega)]; omega
          have HMS := Lib.hid (hMd.set (p + 3))
          clear hMd
          generalize w5.drew = w6 at *
          go_wp2_with fail
          go_ret
          refine .inr ⟨(by first | rfl | trivial), ?_⟩
          rw [HE.out]
          exact ⟨rfl, HMS.out⟩
        · rw [if_neg h62] at he
          rw [decide_eq_false h62] at hp3
          have HE := Lib.hid he
          clear he h62 h2
          go_upto_region 4 with fail
          refine wp_region_held_drew (S := fun w' => w'.cell? ⟨rb, 0, none⟩ = some (Value.string s) ∧ w'.cell? ⟨rb, 1, none⟩ = some (Value.int .i64 (p : Int)) ∧ Below wr.heap.size wr w') (by kernel_rfl) (hSd) (fun hHeld => ?_)
          refine wpAnyH_take (i := 0) (v := ?_) rfl (by kernel_rfl) (by kernel_rfl) (by kernel_rfl) (fun _ _ _ h => h) (Or.inl ⟨by rfl, ?_⟩) hHeld ?_
          rotate_left
          · intro w hSw; (try dsimp only at hSw); first | (go_simp; done) | (go_simp; with_reducible rfl)
          try simp only [Act.put, List.setIfInBounds_toArray, List.set_cons_zero, List.set_cons_succ, List.getElem_toArray, List.getElem_cons_zero]
          refine wpAnyH_take (i := 1) (v := ?_) rfl (by kernel_rfl) (by kernel_rfl) (by kernel_rfl) (fun _ _ _ h => h) (Or.inl ⟨by rfl, ?_⟩) hHeld ?_
          rotate_left
          · intro w hSw; (try dsimp only at hSw); first | (go_simp; done) | (go_simp; with_reducible rfl)
          try simp only [Act.put, List.setIfInBounds_toArray, List.set_cons_zero, List.set_cons_succ, List.getElem_toArray, List.getElem_cons_zero, List.getElem_cons_succ]
          refine wpAnyH_take (i := 2) (v := ?_) rfl (by kernel_rfl) (by kernel_rfl) (by kernel_rfl) (fun _ _ _ h => h) (Or.inl ⟨by rfl, ?_⟩) hHeld ?_
          rotate_left
          · intro w hSw; (try dsimp only at hSw); first | (go_simp; done) | (go_simp; with_reducible rfl)
          try simp only [Act.put, List.setIfInBounds_toArray, List.set_cons_zero, List.set_cons_succ, List.getElem_toArray, List.getElem_cons_zero, List.getElem_cons_succ]
          refine wpAnyH_take (i := 3) (v := ?_) rfl (by kernel_rfl) (by kernel_rfl) (by kernel_rfl) (fun _ _ _ h => h) (Or.inl ⟨by rfl, ?_⟩) hHeld ?_
          rotate_left
          · intro w hSw; (try dsimp only at hSw); first | (go_simp; done) | (go_simp; with_reducible rfl)
          try simp only [Act.put, List.setIfInBounds_toArray, List.set_cons_zero, List.set_cons_succ, List.getElem_toArray, List.getElem_cons_zero, List.getElem_cons_succ]
          refine wpAnyH_take (i := 4) (v := ?_) rfl (by kernel_rfl) (by kernel_rfl) (by kernel_rfl) (fun _ _ _ h => h) (Or.inl ⟨by rfl, ?_⟩) hHeld ?_
          rotate_left
          · intro w hSw; (try dsimp only at hSw); first | (go_simp; done) | (go_simp; with_reducible rfl)
          try simp only [Act.put, List.setIfInBounds_toArray, List.set_cons_zero, List.set_cons_succ, List.getElem_toArray, List.getElem_cons_zero, List.getElem_cons_succ]
          refine wpAnyH_take (i := 5) (v := ?_) rfl (by kernel_rfl) (by kernel_rfl) (by kernel_rfl) (fun _ _ _ h => h) (Or.inl ⟨by rfl, ?_⟩) hHeld ?_
          rotate_left
          · intro w hSw; (try dsimp only at hSw); first | (go_simp; done) | (go_simp; with_reducible rfl)
          try simp only [Act.put, List.setIfInBounds_toArray, List.set_cons_zero, List.set_cons_succ, List.getElem_toArray, List.getElem_cons_zero, List.getElem_cons_succ]
          refine wpAnyH_take (i := 6) (v := ?_) rfl (by kernel_rfl) (by kernel_rfl) (by kernel_rfl) (fun _ _ _ h => h) (Or.inl ⟨by rfl, ?_⟩) hHeld ?_
          rotate_left
          · intro w hSw; (try dsimp only at hSw); first | (go_simp; done) | (go_simp; with_reducible rfl)
          try simp only [Act.put, List.setIfInBounds_toArray, List.set_cons_zero, List.set_cons_succ, List.getElem_toArray, List.getElem_cons_zero, List.getElem_cons_succ]
          refine wpAnyH_take (i := 7) (v := ?_) rfl (by kernel_rfl) (by kernel_rfl) (by kernel_rfl) (fun _ _ _ h => h) (Or.inl ⟨by rfl, ?_⟩) hHeld ?_
          rotate_left
          · intro w hSw; (try dsimp only at hSw); first | (go_simp; done) | (go_simp; with_reducible rfl)
          try simp only [Act.put, List.setIfInBounds_toArray, List.set_cons_zero, List.set_cons_succ, List.getElem_toArray, List.getElem_cons_zero, List.getElem_cons_succ]
          refine wpAnyH_take (i := 8) (v := ?_) rfl (by kernel_rfl) (by kernel_rfl) (by kernel_rfl) (fun _ _ _ h => h) (Or.inl ⟨by rfl, ?_⟩) hHeld ?_
          rotate_left
          · intro w hSw; (try dsimp only at hSw); first | (go_simp; done) | (go_simp; with_reducible rfl)
          try simp only [Act.put, List.setIfInBounds_toArray, List.set_cons_zero, List.set_cons_succ, List.getElem_toArray, List.getElem_cons_zero, List.getElem_cons_succ]
          refine wpAnyH_ready (rs := [9]) (by kernel_rfl) (by simp) ?_
          refine AllReadyH.cons rfl (fun K hK => ?_) AllReadyH.nil
          go_simp
          go_wp2_with (go_at_call 33; refine (hp2 _).mono ?_; rintro e wy ⟨rfl, rfl⟩)
          refine hK.out _ _ (hSd) (fun hHeld => ?_)
          clear hK K
          refine wpAnyH_take (i := 10) (v := ?_) rfl (by kernel_rfl) (by kernel_rfl) (by kernel_rfl) (fun _ _ _ h => h) (Or.inl ⟨by rfl, ?_⟩) hHeld ?_
          rotate_left
          · intro w hSw; (try dsimp only at hSw); first | (go_simp; done) | (go_simp; with_reducible rfl)
          try simp only [Act.put, List.setIfInBounds_toArray, List.set_cons_zero, List.set_cons_succ, List.getElem_toArray, List.getElem_cons_zero, List.getElem_cons_succ]
          refine wpAnyH_done (by kernel_rfl) ?_ _
          clear hHeld hSd
          have hSd : wr.drew.drew.cell? ⟨rb, 0, none⟩ = some (Value.string s) ∧ wr.drew.drew.cell? ⟨rb, 1, none⟩ = some (Value.int .i64 (p : Int)) ∧ Below wr.drew.heap.size wr.drew wr.drew.drew :=
            ⟨(HMD.out.1.on (Below.refl _ _).drew).cell0, (HMD.out.1.on (Below.refl _ _).drew).cell1, (Below.refl _ _).drew⟩
          have hMd := HMD.out.on (Below.refl wr.drew.heap.size wr.drew).drew
          have hwn := want_no hMd.1
          generalize wr.drew = w5 at *
          go_upto_region 8 with fail
          refine wp_region_held_drew (S := fun w' => w'.cell? ⟨rb, 0, none⟩ = some (Value.string s) ∧ w'.cell? ⟨rb, 1, none⟩ = some (Value.int .i64 (p : Int)) ∧ Below w5.heap.size w5 w') (by kernel_rfl) (hSd) (fun hHeld => ?_)
          refine wpAnyH_take (i := 0) (v := ?_) rfl (by kernel_rfl) (by kernel_rfl) (by kernel_rfl) (fun _ _ _ h => h) (Or.inl ⟨by rfl, ?_⟩) hHeld ?_
          rotate_left
          · intro w hSw; (try dsimp only at hSw); first | (go_simp; done) | (go_simp; with_reducible rfl)
          try simp only [Act.put, List.setIfInBounds_toArray, List.set_cons_zero, List.set_cons_succ, List.getElem_toArray, List.getElem_cons_zero]
          refine wpAnyH_take (i := 1) (v := ?_) rfl (by kernel_rfl) (by kernel_rfl) (by kernel_rfl) (fun _ _ _ h => h) (Or.inl ⟨by rfl, ?_⟩) hHeld ?_
          rotate_left
          · intro w hSw; (try dsimp only at hSw); first | (go_simp; done) | (go_simp; with_reducible rfl)
          try simp only [Act.put, List.setIfInBounds_toArray, List.set_cons_zero, List.set_cons_succ, List.getElem_toArray, List.getElem_cons_zero, List.getElem_cons_succ]
          refine wpAnyH_take (i := 2) (v := ?_) rfl (by kernel_rfl) (by kernel_rfl) (by kernel_rfl) (fun _ _ _ h => h) (Or.inl ⟨by rfl, ?_⟩) hHeld ?_
          rotate_left
          · intro w hSw; (try dsimp only at hSw); first | (go_simp; done) | (go_simp; with_reducible rfl)
          try simp only [Act.put, List.setIfInBounds_toArray, List.set_cons_zero, List.set_cons_succ, List.getElem_toArray, List.getElem_cons_zero, List.getElem_cons_succ]
          refine wpAnyH_take (i := 3) (v := ?_) rfl (by kernel_rfl) (by kernel_rfl) (by kernel_rfl) (fun _ _ _ h => h) (Or.inl ⟨by rfl, ?_⟩) hHeld ?_
          rotate_left
          · intro w hSw; (try dsimp only at hSw); first | (go_simp; done) | (go_simp; with_reducible rfl)
          try simp only [Act.put, List.setIfInBounds_toArray, List.set_cons_zero, List.set_cons_succ, List.getElem_toArray, List.getElem_cons_zero, List.getElem_cons_succ]
          refine wpAnyH_take (i := 4) (v := ?_) rfl (by kernel_rfl) (by kernel_rfl) (by kernel_rfl) (fun _ _ _ h => h) (Or.inl ⟨by rfl, ?_⟩) hHeld ?_
          rotate_left
          · intro w hSw; (try dsimp only at hSw); first | (go_simp; done) | (go_simp; with_reducible rfl)
          try simp only [Act.put, List.setIfInBounds_toArray, List.set_cons_zero, List.set_cons_succ, List.getElem_toArray, List.getElem_cons_zero, List.getElem_cons_succ]
          refine wpAnyH_take (i := 5) (v := ?_) rfl (by kernel_rfl) (by kernel_rfl) (by kernel_rfl) (fun _ _ _ h => h) (Or.inl ⟨by rfl, ?_⟩) hHeld ?_
          rotate_left
          · intro w hSw; (try dsimp only at hSw); first | (go_simp; done) | (go_simp; with_reducible rfl)
          try simp only [Act.put, List.setIfInBounds_toArray, List.set_cons_zero, List.set_cons_succ, List.getElem_toArray, List.getElem_cons_zero, List.getElem_cons_succ]
          refine wpAnyH_take (i := 6) (v := ?_) rfl (by kernel_rfl) (by kernel_rfl) (by kernel_rfl) (fun _ _ _ h => h) (Or.inl ⟨by rfl, ?_⟩) hHeld ?_
          rotate_left
          · intro w hSw; (try dsimp only at hSw); first | (go_simp; done) | (go_simp; with_reducible rfl)
          try simp only [Act.put, List.setIfInBounds_toArray, List.set_cons_zero, List.set_cons_succ, List.getElem_toArray, List.getElem_cons_zero, List.getElem_cons_succ]
          refine wpAnyH_take (i := 7) (v := ?_) rfl (by kernel_rfl) (by kernel_rfl) (by kernel_rfl) (fun _ _ _ h => h) (Or.inl ⟨by rfl, ?_⟩) hHeld ?_
          rotate_left
          · intro w hSw; (try dsimp only at hSw); first | (go_simp; done) | (go_simp; with_reducible rfl)
          try simp only [Act.put, List.setIfInBounds_toArray, List.set_cons_zero, List.set_cons_succ, List.getElem_toArray, List.getElem_cons_zero, List.getElem_cons_succ]
          refine wpAnyH_take (i := 8) (v := ?_) rfl (by kernel_rfl) (by kernel_rfl) (by kernel_rfl) (fun _ _ _ h => h) (Or.inl ⟨by rfl, ?_⟩) hHeld ?_
          rotate_left
          · intro w hSw; (try dsimp only at hSw); first | (go_simp; done) | (go_simp; with_reducible rfl)
          try simp only [Act.put, List.setIfInBounds_toArray, List.set_cons_zero, List.set_cons_succ, List.getElem_toArray, List.getElem_cons_zero, List.getElem_cons_succ]
          refine wpAnyH_take (i := 9) (v := ?_) rfl (by kernel_rfl) (by kernel_rfl) (by kernel_rfl) (fun _ _ _ h => h) (Or.inl ⟨by rfl, ?_⟩) hHeld ?_
          rotate_left
          · intro w hSw; (try dsimp only at hSw); first | (go_simp; done) | (go_simp; with_reducible rfl)
          try simp only [Act.put, List.setIfInBounds_toArray, List.set_cons_zero, List.set_cons_succ, List.getElem_toArray, List.getElem_cons_zero, List.getElem_cons_succ]
          refine wpAnyH_ready (rs := [10]) (by kernel_rfl) (by simp) ?_
          refine AllReadyH.cons rfl (fun K hK => ?_) AllReadyH.nil
          go_simp
          go_wp2_with (go_at_call 33; refine (hp3 _).mono ?_; rintro e wy ⟨rfl, rfl⟩)
          refine hK.out _ _ (hSd) (fun hHeld => ?_)
          clear hK K
          refine wpAnyH_ready (rs := [11]) (by kernel_rfl) (by simp) ?_
          refine AllReadyH.cons rfl (fun K hK => ?_) AllReadyH.nil
          go_simp
          go_wp2_with (go_at_call 43; refine hwn.mono ?_; rintro e wy ⟨rfl, rfl⟩)
          refine ⟨rfl, .inr ⟨(by first | rfl | trivial), ?_⟩⟩
          rw [HE.out]
          exact ⟨rfl, hMd.2⟩
      | false =>
        have h2' : wdAt s p ([45, 45].map fun c : UInt8 => (c.toNat : Int)) = false := h2
        rw [h2'] at hp2
        cases hr : rChar (rn s p) with
        | true =>
          have hlt := rChar_in hr
          have he := hb.trans (cmtF_go h2 hr)
          have hw1 := wd_pos s p hlt
          have hw4 := wd_in s p hlt
          obtain ⟨n, hn⟩ : ∃ n, wd s p = n := ⟨_, rfl⟩
          rw [hn] at he hw1 hw4
          have HE := Lib.hid he; have HN := Lib.hid hn; have HW1 := Lib.hid hw1; have HW4 := Lib.hid hw4; have HLT := Lib.hid hlt; have HR := Lib.hid hr
          have f1 : IntKind.i64.wrap ((p : Int) + (n : Int)) = ((p + n : Nat) : Int) := by rw [IntWalk.i64_in _ (by omega)]; omega
          clear h2' hb hM hMd hg he hn hw1 hw4 hlt hr h2 hp3
          go_upto_region 4 with fail
          refine wp_region_held_drew (S := fun w' => w'.cell? ⟨rb, 0, none⟩ = some (Value.string s) ∧ w'.cell? ⟨rb, 1, none⟩ = some (Value.int .i64 (p : Int)) ∧ Below wr.heap.size wr w') (by kernel_rfl) (hSd) (fun hHeld => ?_)
          refine wpAnyH_take (i := 0) (v := ?_) rfl (by kernel_rfl) (by kernel_rfl) (by kernel_rfl) (fun _ _ _ h => h) (Or.inl ⟨by rfl, ?_⟩) hHeld ?_
          rotate_left
          · intro w hSw; (try dsimp only at hSw); first | (go_simp; done) | (go_simp; with_reducible rfl)
          try simp only [Act.put, List.setIfInBounds_toArray, List.set_cons_zero, List.set_cons_succ, List.getElem_toArray, List.getElem_cons_zero]
          refine wpAnyH_take (i := 1) (v := ?_) rfl (by kernel_rfl) (by kernel_rfl) (by kernel_rfl) (fun _ _ _ h => h) (Or.inl ⟨by rfl, ?_⟩) hHeld ?_
          rotate_left
          · intro w hSw; (try dsimp only at hSw); first | (go_simp; done) | (go_simp; with_reducible rfl)
          try simp only [Act.put, List.setIfInBounds_toArray, List.set_cons_zero, List.set_cons_succ, List.getElem_toArray, List.getElem_cons_zero, List.getElem_cons_succ]
          refine wpAnyH_take (i := 2) (v := ?_) rfl (by kernel_rfl) (by kernel_rfl) (by kernel_rfl) (fun _ _ _ h => h) (Or.inl ⟨by rfl, ?_⟩) hHeld ?_
          rotate_left
          · intro w hSw; (try dsimp only at hSw); first | (go_simp; done) | (go_simp; with_reducible rfl)
          try simp only [Act.put, List.setIfInBounds_toArray, List.set_cons_zero, List.set_cons_succ, List.getElem_toArray, List.getElem_cons_zero, List.getElem_cons_succ]
          refine wpAnyH_take (i := 3) (v := ?_) rfl (by kernel_rfl) (by kernel_rfl) (by kernel_rfl) (fun _ _ _ h => h) (Or.inl ⟨by rfl, ?_⟩) hHeld ?_
          rotate_left
          · intro w hSw; (try dsimp only at hSw); first | (go_simp; done) | (go_simp; with_reducible rfl)
          try simp only [Act.put, List.setIfInBounds_toArray, List.set_cons_zero, List.set_cons_succ, List.getElem_toArray, List.getElem_cons_zero, List.getElem_cons_succ]
          refine wpAnyH_take (i := 4) (v := ?_) rfl (by kernel_rfl) (by kernel_rfl) (by kernel_rfl) (fun _ _ _ h => h) (Or.inl ⟨by rfl, ?_⟩) hHeld ?_
          rotate_left
          · intro w hSw; (try dsimp only at hSw); first | (go_simp; done) | (go_simp; with_reducible rfl)
          try simp only [Act.put, List.setIfInBounds_toArray, List.set_cons_zero, List.set_cons_succ, List.getElem_toArray, List.getElem_cons_zero, List.getElem_cons_succ]
          refine wpAnyH_take (i := 5) (v := ?_) rfl (by kernel_rfl) (by kernel_rfl) (by kernel_rfl) (fun _ _ _ h => h) (Or.inl ⟨by rfl, ?_⟩) hHeld ?_
          rotate_left
          · intro w hSw; (try dsimp only at hSw); first | (go_simp; done) | (go_simp; with_reducible rfl)
          try simp only [Act.put, List.setIfInBounds_toArray, List.set_cons_zero, List.set_cons_succ, List.getElem_toArray, List.getElem_cons_zero, List.getElem_cons_succ]
          refine wpAnyH_take (i := 6) (v := ?_) rfl (by kernel_rfl) (by kernel_rfl) (by kernel_rfl) (fun _ _ _ h => h) (Or.inl ⟨by rfl, ?_⟩) hHeld ?_
          rotate_left
          · intro w hSw; (try dsimp only at hSw); first | (go_simp; done) | (go_simp; with_reducible rfl)
          try simp only [Act.put, List.setIfInBounds_toArray, List.set_cons_zero, List.set_cons_succ, List.getElem_toArray, List.getElem_cons_zero, List.getElem_cons_succ]
          refine wpAnyH_take (i := 7) (v := ?_) rfl (by kernel_rfl) (by kernel_rfl) (by kernel_rfl) (fun _ _ _ h => h) (Or.inl ⟨by rfl, ?_⟩) hHeld ?_
          rotate_left
          · intro w hSw; (try dsimp only at hSw); first | (go_simp; done) | (go_simp; with_reducible rfl)
          try simp only [Act.put, List.setIfInBounds_toArray, List.set_cons_zero, List.set_cons_succ, List.getElem_toArray, List.getElem_cons_zero, List.getElem_cons_succ]
          refine wpAnyH_take (i := 8) (v := ?_) rfl (by kernel_rfl) (by kernel_rfl) (by kernel_rfl) (fun _ _ _ h => h) (Or.inl ⟨by rfl, ?_⟩) hHeld ?_
          rotate_left
          · intro w hSw; (try dsimp only at hSw); first | (go_simp; done) | (go_simp; with_reducible rfl)
          try simp only [Act.put, List.setIfInBounds_toArray, List.set_cons_zero, List.set_cons_succ, List.getElem_toArray, List.getElem_cons_zero, List.getElem_cons_succ]
          refine wpAnyH_ready (rs := [9]) (by kernel_rfl) (by simp) ?_
          refine AllReadyH.cons rfl (fun K hK => ?_) AllReadyH.nil
          go_simp
          go_wp2_with (go_at_call 33; refine (hp2 _).mono ?_; rintro e wy ⟨rfl, rfl⟩)
          refine hK.out _ _ (hSd) (fun hHeld => ?_)
          clear hK K
          refine wpAnyH_take (i := 10) (v := ?_) rfl (by kernel_rfl) (by kernel_rfl) (by kernel_rfl) (fun _ _ _ h => h) (Or.inl ⟨by rfl, ?_⟩) hHeld ?_
          rotate_left
          · intro w hSw; (try dsimp only at hSw); first | (go_simp; done) | (go_simp; with_reducible rfl)
          try simp only [Act.put, List.setIfInBounds_toArray, List.set_cons_zero, List.set_cons_succ, List.getElem_toArray, List.getElem_cons_zero, List.getElem_cons_succ]
          refine wpAnyH_done (by kernel_rfl) ?_ _
          clear hHeld hSd
          have hSd : wr.drew.drew.cell? ⟨rb, 0, none⟩ = some (Value.string s) ∧ wr.drew.drew.cell? ⟨rb, 1, none⟩ = some (Value.int .i64 (p : Int)) ∧ Below wr.drew.heap.size wr.drew wr.drew.drew :=
            ⟨(HMD.out.1.on (Below.refl _ _).drew).cell0, (HMD.out.1.on (Below.refl _ _).drew).cell1, (Below.refl _ _).drew⟩
          have hTd := HT.out _ HMD.out.2
          have hat := fun W (hB : Below wr.drew.heap.size wr.drew W) => at_char s p W (hTd.later hB)
          have hKeep : ∀ W W', Below wr.drew.heap.size wr.drew W → Below W.heap.size W W' → W'.cell? ⟨rb, 0, none⟩ = some (Value.string s) ∧ W'.cell? ⟨rb, 1, none⟩ = some (Value.int .i64 (p : Int)) ∧ Below wr.drew.heap.size wr.drew W' := fun W W' h1 h2 =>
            have h := h1.trans (h2.mono h1.size)
            ⟨(HMD.out.1.on h).cell0, (HMD.out.1.on h).cell1, h⟩
          generalize wr.drew = w5 at *
          go_upto_region 5 with fail
          refine wp_region_held_drew (S := fun w' => w'.cell? ⟨rb, 0, none⟩ = some (Value.string s) ∧ w'.cell? ⟨rb, 1, none⟩ = some (Value.int .i64 (p : Int)) ∧ Below w5.heap.size w5 w') (by kernel_rfl) (hSd) (fun hHeld => ?_)
          refine wpAnyH_take (i := 0) (v := ?_) rfl (by kernel_rfl) (by kernel_rfl) (by kernel_rfl) (fun _ _ _ h => h) (Or.inl ⟨by rfl, ?_⟩) hHeld ?_
          rotate_left
          · intro w hSw; (try dsimp only at hSw); first | (go_simp; done) | (go_simp; with_reducible rfl)
          try simp only [Act.put, List.setIfInBounds_toArray, List.set_cons_zero, List.set_cons_succ, List.getElem_toArray, List.getElem_cons_zero]
          refine wpAnyH_take (i := 1) (v := ?_) rfl (by kernel_rfl) (by kernel_rfl) (by kernel_rfl) (fun _ _ _ h => h) (Or.inl ⟨by rfl, ?_⟩) hHeld ?_
          rotate_left
          · intro w hSw; (try dsimp only at hSw); first | (go_simp; done) | (go_simp; with_reducible rfl)
          try simp only [Act.put, List.setIfInBounds_toArray, List.set_cons_zero, List.set_cons_succ, List.getElem_toArray, List.getElem_cons_zero, List.getElem_cons_succ]
          refine wpAnyH_take (i := 2) (v := ?_) rfl (by kernel_rfl) (by kernel_rfl) (by kernel_rfl) (fun _ _ _ h => h) (Or.inl ⟨by rfl, ?_⟩) hHeld ?_
          rotate_left
          · intro w hSw; (try dsimp only at hSw); first | (go_simp; done) | (go_simp; with_reducible rfl)
          try simp only [Act.put, List.setIfInBounds_toArray, List.set_cons_zero, List.set_cons_succ, List.getElem_toArray, List.getElem_cons_zero, List.getElem_cons_succ]
          refine wpAnyH_take (i := 3) (v := ?_) rfl (by kernel_rfl) (by kernel_rfl) (by kernel_rfl) (fun _ _ _ h => h) (Or.inl ⟨by rfl, ?_⟩) hHeld ?_
          rotate_left
          · intro w hSw; (try dsimp only at hSw); first | (go_simp; done) | (go_simp; with_reducible rfl)
          try simp only [Act.put, List.setIfInBounds_toArray, List.set_cons_zero, List.set_cons_succ, List.getElem_toArray, List.getElem_cons_zero, List.getElem_cons_succ]
          refine wpAnyH_take (i := 4) (v := ?_) rfl (by kernel_rfl) (by kernel_rfl) (by kernel_rfl) (fun _ _ _ h => h) (Or.inl ⟨by rfl, ?_⟩) hHeld ?_
          rotate_left
          · intro w hSw; (try dsimp only at hSw); first | (go_simp; done) | (go_simp; with_reducible rfl)
          try simp only [Act.put, List.setIfInBounds_toArray, List.set_cons_zero, List.set_cons_succ, List.getElem_toArray, List.getElem_cons_zero, List.getElem_cons_succ]
          refine wpAnyH_take (i := 5) (v := ?_) rfl (by kernel_rfl) (by kernel_rfl) (by kernel_rfl) (fun _ _ _ h => h) (Or.inl ⟨by rfl, ?_⟩) hHeld ?_
          rotate_left
          · intro w hSw; (try dsimp only at hSw); first | (go_simp; done) | (go_simp; with_reducible rfl)
          try simp only [Act.put, List.setIfInBounds_toArray, List.set_cons_zero, List.set_cons_succ, List.getElem_toArray, List.getElem_cons_zero, List.getElem_cons_succ]
          refine wpAnyH_take (i := 6) (v := ?_) rfl (by kernel_rfl) (by kernel_rfl) (by kernel_rfl) (fun _ _ _ h => h) (Or.inl ⟨by rfl, ?_⟩) hHeld ?_
          rotate_left
          · intro w hSw; (try dsimp only at hSw); first | (go_simp; done) | (go_simp; with_reducible rfl)
          try simp only [Act.put, List.setIfInBounds_toArray, List.set_cons_zero, List.set_cons_succ, List.getElem_toArray, List.getElem_cons_zero, List.getElem_cons_succ]
          refine wpAnyH_take (i := 7) (v := ?_) rfl (by kernel_rfl) (by kernel_rfl) (by kernel_rfl) (fun _ _ _ h => h) (Or.inl ⟨by rfl, ?_⟩) hHeld ?_
          rotate_left
          · intro w hSw; (try dsimp only at hSw); first | (go_simp; done) | (go_simp; with_reducible rfl)
          try simp only [Act.put, List.setIfInBounds_toArray, List.set_cons_zero, List.set_cons_succ, List.getElem_toArray, List.getElem_cons_zero, List.getElem_cons_succ]
          refine wpAnyH_ready (rs := [8]) (by kernel_rfl) (by simp) ?_
          refine AllReadyH.cons rfl (fun K hK => ?_) AllReadyH.nil
          go_simp
          go_wp2_with (go_at_call 95; refine (hat _ hSd.2.2).mono ?_; rintro e wy ⟨⟨atr, atn, rfl, hat2a, hat2b⟩, hBy⟩; have hat2 := And.intro trivial (And.intro hat2a hat2b); have hSy := hKeep _ _ hSd.2.2 hBy)
          refine hK.out _ _ (hSy) (fun hHeld => ?_)
          clear hK K
          refine wpAnyH_take (i := 9) (v := ?_) rfl (by kernel_rfl) (by kernel_rfl) (by kernel_rfl) (fun _ _ _ h => h) (Or.inl ⟨by rfl, ?_⟩) hHeld ?_
          rotate_left
          · intro w hSw; (try dsimp only at hSw); first | (go_simp; done) | (go_simp; with_reducible rfl)
          try simp only [Act.put, List.setIfInBounds_toArray, List.set_cons_zero, List.set_cons_succ, List.getElem_toArray, List.getElem_cons_zero, List.getElem_cons_succ]
          refine wpAnyH_take (i := 10) (v := ?_) rfl (by kernel_rfl) (by kernel_rfl) (by kernel_rfl) (fun _ _ _ h => h) (Or.inl ⟨by rfl, ?_⟩) hHeld ?_
          rotate_left
          · intro w hSw; (try dsimp only at hSw); first | (go_simp; done) | (go_simp; with_reducible rfl)
          try simp only [Act.put, List.setIfInBounds_toArray, List.set_cons_zero, List.set_cons_succ, List.getElem_toArray, List.getElem_cons_zero, List.getElem_cons_succ]
          refine wpAnyH_take (i := 11) (v := ?_) rfl (by kernel_rfl) (by kernel_rfl) (by kernel_rfl) (fun _ _ _ h => h) (Or.inl ⟨by rfl, ?_⟩) hHeld ?_
          rotate_left
          · intro w hSw; (try dsimp only at hSw); first | (go_simp; done) | (go_simp; with_reducible rfl)
          try simp only [Act.put, List.setIfInBounds_toArray, List.set_cons_zero, List.set_cons_succ, List.getElem_toArray, List.getElem_cons_zero, List.getElem_cons_succ]
          refine wpAnyH_take (i := 12) (v := ?_) rfl (by kernel_rfl) (by kernel_rfl) (by kernel_rfl) (fun _ _ _ h => h) (Or.inl ⟨by rfl, ?_⟩) hHeld ?_
          rotate_left
          · intro w hSw; (try dsimp only at hSw); first | (go_simp; done) | (go_simp; with_reducible rfl)
          try simp only [Act.put, List.setIfInBounds_toArray, List.set_cons_zero, List.set_cons_succ, List.getElem_toArray, List.getElem_cons_zero, List.getElem_cons_succ]
          refine wpAnyH_take (i := 13) (v := ?_) rfl (by kernel_rfl) (by kernel_rfl) (by kernel_rfl) (fun _ _ _ h => h) (Or.inl ⟨by rfl, ?_⟩) hHeld ?_
          rotate_left
          · intro w hSw; (try dsimp only at hSw); first | (go_simp; done) | (go_simp; with_reducible rfl)
          try simp only [Act.put, List.setIfInBounds_toArray, List.set_cons_zero, List.set_cons_succ, List.getElem_toArray, List.getElem_cons_zero, List.getElem_cons_succ]
          refine wpAnyH_done (by kernel_rfl) ?_ _
          have hE := hSy.2.2
          have hM6 := HMD.out.on hE
          have hre := hat2.2.1 ▸ HR.out
          obtain ⟨rfl, rfl⟩ := hat2.2.2 HLT.out
          rw [HN.out]
          have hch := char_any (rn s p) wy
          rw [HR.out] at hch
          have hwy := want_yes (.pointer (some ⟨rb, 0, none⟩)) wy
          have d1 := hM6.1.cell1
          have d0 := hM6.1.blk.free 1
          have HMS := Lib.hid (hM6.set (p + n))
          clear hHeld hSd hSy hKeep hat hat2 hE hM6 hre hBy
          go_wp2_with fail
          refine hch.mono ?_
          rintro e w' ⟨rfl, rfl⟩
          go_wp2_with fail
          refine hwy.mono ?_
          rintro e w' ⟨rfl, rfl⟩
          go_wp2_with fail
          go_roundg (s.size + 5 - (p + n))
          case rel => exact ⟨p + n, g, by have := HG.out; have := HW1.out; have := HW4.out; omega, by have := HP4.out; omega, HW4.out, by have := HGF.out; have := HW1.out; omega, HE.out, HMS.out⟩
          case measure => have := HG.out; have := HW4.out; have := HW1.out; omega
        | false =>
          have he := hb.trans (cmtF_bad h2 hr)
          have HE := Lib.hid he; have HR := Lib.hid hr
          clear h2' hb hM hMd hg he hr h2 hp3
          go_upto_region 4 with fail
          refine wp_region_held_drew (S := fun w' => w'.cell? ⟨rb, 0, none⟩ = some (Value.string s) ∧ w'.cell? ⟨rb, 1, none⟩ = some (Value.int .i64 (p : Int)) ∧ Below wr.heap.size wr w') (by kernel_rfl) (hSd) (fun hHeld => ?_)
          refine wpAnyH_take (i := 0) (v := ?_) rfl (by kernel_rfl) (by kernel_rfl) (by kernel_rfl) (fun _ _ _ h => h) (Or.inl ⟨by rfl, ?_⟩) hHeld ?_
          rotate_left
          · intro w hSw; (try dsimp only at hSw); first | (go_simp; done) | (go_simp; with_reducible rfl)
          try simp only [Act.put, List.setIfInBounds_toArray, List.set_cons_zero, List.set_cons_succ, List.getElem_toArray, List.getElem_cons_zero]
          refine wpAnyH_take (i := 1) (v := ?_) rfl (by kernel_rfl) (by kernel_rfl) (by kernel_rfl) (fun _ _ _ h => h) (Or.inl ⟨by rfl, ?_⟩) hHeld ?_
          rotate_left
          · intro w hSw; (try dsimp only at hSw); first | (go_simp; done) | (go_simp; with_reducible rfl)
          try simp only [Act.put, List.setIfInBounds_toArray, List.set_cons_zero, List.set_cons_succ, List.getElem_toArray, List.getElem_cons_zero, List.getElem_cons_succ]
          refine wpAnyH_take (i := 2) (v := ?_) rfl (by kernel_rfl) (by kernel_rfl) (by kernel_rfl) (fun _ _ _ h => h) (Or.inl ⟨by rfl, ?_⟩) hHeld ?_
          rotate_left
          · intro w hSw; (try dsimp only at hSw); first | (go_simp; done) | (go_simp; with_reducible rfl)
          try simp only [Act.put, List.setIfInBounds_toArray, List.set_cons_zero, List.set_cons_succ, List.getElem_toArray, List.getElem_cons_zero, List.getElem_cons_succ]
          refine wpAnyH_take (i := 3) (v := ?_) rfl (by kernel_rfl) (by kernel_rfl) (by kernel_rfl) (fun _ _ _ h => h) (Or.inl ⟨by rfl, ?_⟩) hHeld ?_
          rotate_left
          · intro w hSw; (try dsimp only at hSw); first | (go_simp; done) | (go_simp; with_reducible rfl)
          try simp only [Act.put, List.setIfInBounds_toArray, List.set_cons_zero, List.set_cons_succ, List.getElem_toArray, List.getElem_cons_zero, List.getElem_cons_succ]
          refine wpAnyH_take (i := 4) (v := ?_) rfl (by kernel_rfl) (by kernel_rfl) (by kernel_rfl) (fun _ _ _ h => h) (Or.inl ⟨by rfl, ?_⟩) hHeld ?_
          rotate_left
          · intro w hSw; (try dsimp only at hSw); first | (go_simp; done) | (go_simp; with_reducible rfl)
          try simp only [Act.put, List.setIfInBounds_toArray, List.set_cons_zero, List.set_cons_succ, List.getElem_toArray, List.getElem_cons_zero, List.getElem_cons_succ]
          refine wpAnyH_take (i := 5) (v := ?_) rfl (by kernel_rfl) (by kernel_rfl) (by kernel_rfl) (fun _ _ _ h => h) (Or.inl ⟨by rfl, ?_⟩) hHeld ?_
          rotate_left
          · intro w hSw; (try dsimp only at hSw); first | (go_simp; done) | (go_simp; with_reducible rfl)
          try simp only [Act.put, List.setIfInBounds_toArray, List.set_cons_zero, List.set_cons_succ, List.getElem_toArray, List.getElem_cons_zero, List.getElem_cons_succ]
          refine wpAnyH_take (i := 6) (v := ?_) rfl (by kernel_rfl) (by kernel_rfl) (by kernel_rfl) (fun _ _ _ h => h) (Or.inl ⟨by rfl, ?_⟩) hHeld ?_
          rotate_left
          · intro w hSw; (try dsimp only at hSw); first | (go_simp; done) | (go_simp; with_reducible rfl)
          try simp only [Act.put, List.setIfInBounds_toArray, List.set_cons_zero, List.set_cons_succ, List.getElem_toArray, List.getElem_cons_zero, List.getElem_cons_succ]
          refine wpAnyH_take (i := 7) (v := ?_) rfl (by kernel_rfl) (by kernel_rfl) (by kernel_rfl) (fun _ _ _ h => h) (Or.inl ⟨by rfl, ?_⟩) hHeld ?_
          rotate_left
          · intro w hSw; (try dsimp only at hSw); first | (go_simp; done) | (go_simp; with_reducible rfl)
          try simp only [Act.put, List.setIfInBounds_toArray, List.set_cons_zero, List.set_cons_succ, List.getElem_toArray, List.getElem_cons_zero, List.getElem_cons_succ]
          refine wpAnyH_take (i := 8) (v := ?_) rfl (by kernel_rfl) (by kernel_rfl) (by kernel_rfl) (fun _ _ _ h => h) (Or.inl ⟨by rfl, ?_⟩) hHeld ?_
          rotate_left
          · intro w hSw; (try dsimp only at hSw); first | (go_simp; done) | (go_simp; with_reducible rfl)
          try simp only [Act.put, List.setIfInBounds_toArray, List.set_cons_zero, List.set_cons_succ, List.getElem_toArray, List.getElem_cons_zero, List.getElem_cons_succ]
          refine wpAnyH_ready (rs := [9]) (by kernel_rfl) (by simp) ?_
          refine AllReadyH.cons rfl (fun K hK => ?_) AllReadyH.nil
          go_simp
          go_wp2_with (go_at_call 33; refine (hp2 _).mono ?_; rintro e wy ⟨rfl, rfl⟩)
          refine hK.out _ _ (hSd) (fun hHeld => ?_)
          clear hK K
          refine wpAnyH_take (i := 10) (v := ?_) rfl (by kernel_rfl) (by kernel_rfl) (by kernel_rfl) (fun _ _ _ h => h) (Or.inl ⟨by rfl, ?_⟩) hHeld ?_
          rotate_left
          · intro w hSw; (try dsimp only at hSw); first | (go_simp; done) | (go_simp; with_reducible rfl)
          try simp only [Act.put, List.setIfInBounds_toArray, List.set_cons_zero, List.set_cons_succ, List.getElem_toArray, List.getElem_cons_zero, List.getElem_cons_succ]
          refine wpAnyH_done (by kernel_rfl) ?_ _
          clear hHeld hSd
          have hSd : wr.drew.drew.cell? ⟨rb, 0, none⟩ = some (Value.string s) ∧ wr.drew.drew.cell? ⟨rb, 1, none⟩ = some (Value.int .i64 (p : Int)) ∧ Below wr.drew.heap.size wr.drew wr.drew.drew :=
            ⟨(HMD.out.1.on (Below.refl _ _).drew).cell0, (HMD.out.1.on (Below.refl _ _).drew).cell1, (Below.refl _ _).drew⟩
          have hTd := HT.out _ HMD.out.2
          have hat := fun W (hB : Below wr.drew.heap.size wr.drew W) => at_char s p W (hTd.later hB)
          have hKeep : ∀ W W', Below wr.drew.heap.size wr.drew W → Below W.heap.size W W' → W'.cell? ⟨rb, 0, none⟩ = some (Value.string s) ∧ W'.cell? ⟨rb, 1, none⟩ = some (Value.int .i64 (p : Int)) ∧ Below wr.drew.heap.size wr.drew W' := fun W W' h1 h2 =>
            have h := h1.trans (h2.mono h1.size)
            ⟨(HMD.out.1.on h).cell0, (HMD.out.1.on h).cell1, h⟩
          generalize wr.drew = w5 at *
          go_upto_region 5 with fail
          refine wp_region_held_drew (S := fun w' => w'.cell? ⟨rb, 0, none⟩ = some (Value.string s) ∧ w'.cell? ⟨rb, 1, none⟩ = some (Value.int .i64 (p : Int)) ∧ Below w5.heap.size w5 w') (by kernel_rfl) (hSd) (fun hHeld => ?_)
          refine wpAnyH_take (i := 0) (v := ?_) rfl (by kernel_rfl) (by kernel_rfl) (by kernel_rfl) (fun _ _ _ h => h) (Or.inl ⟨by rfl, ?_⟩) hHeld ?_
          rotate_left
          · intro w hSw; (try dsimp only at hSw); first | (go_simp; done) | (go_simp; with_reducible rfl)
          try simp only [Act.put, List.setIfInBounds_toArray, List.set_cons_zero, List.set_cons_succ, List.getElem_toArray, List.getElem_cons_zero]
          refine wpAnyH_take (i := 1) (v := ?_) rfl (by kernel_rfl) (by kernel_rfl) (by kernel_rfl) (fun _ _ _ h => h) (Or.inl ⟨by rfl, ?_⟩) hHeld ?_
          rotate_left
          · intro w hSw; (try dsimp only at hSw); first | (go_simp; done) | (go_simp; with_reducible rfl)
          try simp only [Act.put, List.setIfInBounds_toArray, List.set_cons_zero, List.set_cons_succ, List.getElem_toArray, List.getElem_cons_zero, List.getElem_cons_succ]
          refine wpAnyH_take (i := 2) (v := ?_) rfl (by kernel_rfl) (by kernel_rfl) (by kernel_rfl) (fun _ _ _ h => h) (Or.inl ⟨by rfl, ?_⟩) hHeld ?_
          rotate_left
          · intro w hSw; (try dsimp only at hSw); first | (go_simp; done) | (go_simp; with_reducible rfl)
          try simp only [Act.put, List.setIfInBounds_toArray, List.set_cons_zero, List.set_cons_succ, List.getElem_toArray, List.getElem_cons_zero, List.getElem_cons_succ]
          refine wpAnyH_take (i := 3) (v := ?_) rfl (by kernel_rfl) (by kernel_rfl) (by kernel_rfl) (fun _ _ _ h => h) (Or.inl ⟨by rfl, ?_⟩) hHeld ?_
          rotate_left
          · intro w hSw; (try dsimp only at hSw); first | (go_simp; done) | (go_simp; with_reducible rfl)
          try simp only [Act.put, List.setIfInBounds_toArray, List.set_cons_zero, List.set_cons_succ, List.getElem_toArray, List.getElem_cons_zero, List.getElem_cons_succ]
          refine wpAnyH_take (i := 4) (v := ?_) rfl (by kernel_rfl) (by kernel_rfl) (by kernel_rfl) (fun _ _ _ h => h) (Or.inl ⟨by rfl, ?_⟩) hHeld ?_
          rotate_left
          · intro w hSw; (try dsimp only at hSw); first | (go_simp; done) | (go_simp; with_reducible rfl)
          try simp only [Act.put, List.setIfInBounds_toArray, List.set_cons_zero, List.set_cons_succ, List.getElem_toArray, List.getElem_cons_zero, List.getElem_cons_succ]
          refine wpAnyH_take (i := 5) (v := ?_) rfl (by kernel_rfl) (by kernel_rfl) (by kernel_rfl) (fun _ _ _ h => h) (Or.inl ⟨by rfl, ?_⟩) hHeld ?_
          rotate_left
          · intro w hSw; (try dsimp only at hSw); first | (go_simp; done) | (go_simp; with_reducible rfl)
          try simp only [Act.put, List.setIfInBounds_toArray, List.set_cons_zero, List.set_cons_succ, List.getElem_toArray, List.getElem_cons_zero, List.getElem_cons_succ]
          refine wpAnyH_take (i := 6) (v := ?_) rfl (by kernel_rfl) (by kernel_rfl) (by kernel_rfl) (fun _ _ _ h => h) (Or.inl ⟨by rfl, ?_⟩) hHeld ?_
          rotate_left
          · intro w hSw; (try dsimp only at hSw); first | (go_simp; done) | (go_simp; with_reducible rfl)
          try simp only [Act.put, List.setIfInBounds_toArray, List.set_cons_zero, List.set_cons_succ, List.getElem_toArray, List.getElem_cons_zero, List.getElem_cons_succ]
          refine wpAnyH_take (i := 7) (v := ?_) rfl (by kernel_rfl) (by kernel_rfl) (by kernel_rfl) (fun _ _ _ h => h) (Or.inl ⟨by rfl, ?_⟩) hHeld ?_
          rotate_left
          · intro w hSw; (try dsimp only at hSw); first | (go_simp; done) | (go_simp; with_reducible rfl)
          try simp only [Act.put, List.setIfInBounds_toArray, List.set_cons_zero, List.set_cons_succ, List.getElem_toArray, List.getElem_cons_zero, List.getElem_cons_succ]
          refine wpAnyH_ready (rs := [8]) (by kernel_rfl) (by simp) ?_
          refine AllReadyH.cons rfl (fun K hK => ?_) AllReadyH.nil
          go_simp
          go_wp2_with (go_at_call 95; refine (hat _ hSd.2.2).mono ?_; rintro e wy ⟨⟨atr, atn, rfl, hat2a, hat2b⟩, hBy⟩; have hat2 := And.intro trivial (And.intro hat2a hat2b); have hSy := hKeep _ _ hSd.2.2 hBy)
          refine hK.out _ _ (hSy) (fun hHeld => ?_)
          clear hK K
          refine wpAnyH_take (i := 9) (v := ?_) rfl (by kernel_rfl) (by kernel_rfl) (by kernel_rfl) (fun _ _ _ h => h) (Or.inl ⟨by rfl, ?_⟩) hHeld ?_
          rotate_left
          · intro w hSw; (try dsimp only at hSw); first | (go_simp; done) | (go_simp; with_reducible rfl)
          try simp only [Act.put, List.setIfInBounds_toArray, List.set_cons_zero, List.set_cons_succ, List.getElem_toArray, List.getElem_cons_zero, List.getElem_cons_succ]
          refine wpAnyH_take (i := 10) (v := ?_) rfl (by kernel_rfl) (by kernel_rfl) (by kernel_rfl) (fun _ _ _ h => h) (Or.inl ⟨by rfl, ?_⟩) hHeld ?_
          rotate_left
          · intro w hSw; (try dsimp only at hSw); first | (go_simp; done) | (go_simp; with_reducible rfl)
          try simp only [Act.put, List.setIfInBounds_toArray, List.set_cons_zero, List.set_cons_succ, List.getElem_toArray, List.getElem_cons_zero, List.getElem_cons_succ]
          refine wpAnyH_take (i := 11) (v := ?_) rfl (by kernel_rfl) (by kernel_rfl) (by kernel_rfl) (fun _ _ _ h => h) (Or.inl ⟨by rfl, ?_⟩) hHeld ?_
          rotate_left
          · intro w hSw; (try dsimp only at hSw); first | (go_simp; done) | (go_simp; with_reducible rfl)
          try simp only [Act.put, List.setIfInBounds_toArray, List.set_cons_zero, List.set_cons_succ, List.getElem_toArray, List.getElem_cons_zero, List.getElem_cons_succ]
          refine wpAnyH_take (i := 12) (v := ?_) rfl (by kernel_rfl) (by kernel_rfl) (by kernel_rfl) (fun _ _ _ h => h) (Or.inl ⟨by rfl, ?_⟩) hHeld ?_
          rotate_left
          · intro w hSw; (try dsimp only at hSw); first | (go_simp; done) | (go_simp; with_reducible rfl)
          try simp only [Act.put, List.setIfInBounds_toArray, List.set_cons_zero, List.set_cons_succ, List.getElem_toArray, List.getElem_cons_zero, List.getElem_cons_succ]
          refine wpAnyH_take (i := 13) (v := ?_) rfl (by kernel_rfl) (by kernel_rfl) (by kernel_rfl) (fun _ _ _ h => h) (Or.inl ⟨by rfl, ?_⟩) hHeld ?_
          rotate_left
          · intro w hSw; (try dsimp only at hSw); first | (go_simp; done) | (go_simp; with_reducible rfl)
          try simp only [Act.put, List.setIfInBounds_toArray, List.set_cons_zero, List.set_cons_succ, List.getElem_toArray, List.getElem_cons_zero, List.getElem_cons_succ]
          refine wpAnyH_done (by kernel_rfl) ?_ _
          have hE := hSy.2.2
          have hM6 := HMD.out.on hE
          have hch := char_any atr wy
          rw [hat2.2.1, HR.out] at hch
          have hwn := want_no hM6.1
          clear hHeld hSd hSy hKeep hat hat2 hE hBy
          go_wp2_with fail
          refine hch.mono ?_
          rintro e w' ⟨rfl, rfl⟩
          go_wp2_with fail
          refine hwn.mono ?_
          rintro e w' ⟨rfl, rfl⟩
          go_wp2_with fail
          refine ⟨rfl, .inr ⟨(by first | rfl | trivial), ?_⟩⟩
          rw [HE.out]
          exact ⟨rfl, hM6.2⟩
end

section
open Go.RowKit Go.PlainAid

theorem cmtF_in {s : ByteArray} : ∀ {f p q : Nat}, cmtF s f p = .ok q () → p ≤ s.size → p ≤ q ∧ q ≤ s.size
  | 0, p, q, h, _ => by simp [cmtF] at h
  | f + 1, p, q, h, hp => by
    unfold cmtF at h
    split at h
    · rename_i h2
      split at h
      · rename_i h62
        injection h with h
        have := wdAt_in (s := s) (l := [45, 45, 62]) (p := p) (by rw [wd_three s p h2]; simpa using h62) (by decide) hp
        simp at this
        omega
      · cases h
    · split at h
      · rename_i hr
        have hlt := rChar_in hr
        have h1 := wd_in s p hlt
        have := cmtF_in h h1
        omega
      · cases h
theorem cmtX_in {s : ByteArray} {p q : Nat} (h : cmtX s p = .ok q ()) (hc : isCmt s p = true) (hp : p ≤ s.size) : p < q ∧ q ≤ s.size := by
  have h4 := wdAt_in (s := s) (l := [60, 33, 45, 45]) (p := p) hc (by decide) hp
  simp at h4
  have := cmtF_in h h4
  omega
theorem miscF_blank {s : ByteArray} {f p : Nat} (h : p < blk s p) : miscF s (f + 1) p = miscF s f (blk s p) := by
  conv => lhs; unfold miscF
  rw [if_pos h]
theorem miscF_stop {s : ByteArray} {f p : Nat} (h : ¬ p < blk s p) (h2 : isCmt s p = false) : miscF s (f + 1) p = .ok p () := by
  conv => lhs; unfold miscF
  rw [if_neg h, if_neg (by rw [h2]; simp)]
theorem miscF_cmt {s : ByteArray} {f p : Nat} (h : ¬ p < blk s p) (h2 : isCmt s p = true) : miscF s (f + 1) p = match cmtX s p with
    | .bad e a => .bad e a
    | .ok q _ => miscF s f q := by
  conv => lhs; unfold miscF
  rw [if_neg h, if_pos h2]
  cases cmtX s p <;> rfl

set_option maxRecDepth 100000 in
set_option maxHeartbeats 4000000 in
theorem misc_any {rb : Nat} {s : ByteArray} {at_ : Nat} {cs : Array Value} {w : World} (h : Rdr rb s at_ cs w) (ha : at_ ≤ s.size) (hz : s.size ≤ 1000000000000000) (hT : ∀ W, KeepX w.heap.size rb w W → Tabs W) :
    Calls Tryz.prog 44 #[.pointer (some ⟨rb, 0, none⟩)] w fun en w' => StepEnd (miscX s at_) (fun _ => .tuple #[]) rb s cs w en w' := by
  have HM0 := Lib.hid (h.moved (Below.refl _ _))
  have HT := Lib.hid hT
  clear h hT
  go_enter Tryz.func44, Tryz.ntmps44
  go_wp2_with fail
  go_loopg [] (s.size + 1 - at_) (fun f wx => ∃ p g : Nat, f + p = s.size + 1 ∧ p ≤ s.size ∧ s.size < p + g ∧ miscX s at_ = miscF s g p ∧ Moved rb s cs w p wx)
  case atStart => exact ⟨at_, s.size + 1 - at_, by omega, ha, by omega, rfl, HM0.out⟩
  case round =>
    obtain ⟨p, g, hg, hp, hgf, hb, hM⟩ := hrel
    obtain ⟨g, rfl⟩ : ∃ k, g = k + 1 := ⟨g - 1, by omega⟩
    have HG := Lib.hid hg; have HM := Lib.hid hM; have HGF := Lib.hid hgf
    have hbl := blanks_any hM.1 hp hz
    obtain ⟨q, hq⟩ : ∃ q, blk s p = q := ⟨_, rfl⟩
    have hqs := blk_le s p hp
    have hqp := blk_ge s p
    rw [hq] at hbl hqs hqp
    by_cases hlt : p < q
    · have he := hb.trans (miscF_blank (by rw [hq]; exact hlt))
      rw [hq] at he
      rw [decide_eq_true hlt] at hbl
      have HE := Lib.hid he; have HLT := Lib.hid hlt; have HQS := Lib.hid hqs
      clear he hlt hb hM hg hq hqp hqs
      go_wp2_with fail
      refine hbl.mono ?_
      rintro e w1 ⟨rfl, hM1⟩
      have HM1 := Lib.hid (HM.out.trans hM1)
      clear hM1 hbl
      go_wp2_with fail
      go_roundg (s.size + 1 - q)
      case rel => exact ⟨q, g, by have := HQS.out; omega, HQS.out, by have := HGF.out; have := HLT.out; omega, HE.out, HM1.out⟩
      case measure => have := HG.out; have := HLT.out; have := HQS.out; omega
    · obtain rfl : q = p := by omega
      have hnb : ¬ q < blk s q := by rw [hq]; omega
      rw [decide_eq_false hlt] at hbl
      have HNB := Lib.hid hnb; have HB := Lib.hid hb
      clear hlt hqp hqs hq hnb hb hM hg
      go_wp2_with fail
      refine hbl.mono ?_
      rintro e w1 ⟨rfl, hM1⟩
      have hM2 := HM.out.trans hM1
      have hco := comments_any hM2.1 hp hz (fun W hW => HT.out W (hM2.2.trans (hW.mono hM2.2.size)))
      have HM2 := Lib.hid hM2
      clear hM1 hbl hM2
      go_wp2_with fail
      refine hco.mono ?_
      rintro e w2 (⟨hc, rfl, hM3⟩ | ⟨hc, hS⟩)
      · have he := HB.out.trans (miscF_stop HNB.out hc)
        have hM4 := HM2.out.trans hM3
        have HE := Lib.hid he; have HM4 := Lib.hid hM4
        clear hc he hM3 hM4 hco
        go_wp2_with fail
        go_end0
        rw [HE.out]
        exact ⟨rfl, HM4.out⟩
      · have he := HB.out.trans (miscF_cmt HNB.out hc)
        cases hx : cmtX s q with
        | bad er a =>
          rw [hx] at hS he
          obtain ⟨rfl, hK⟩ := hS
          have hK2 := HM2.out.2.trans (hK.mono HM2.out.2.size)
          have HE := Lib.hid he; have HK := Lib.hid hK2
          clear hc he hx hK hK2 hco
          go_wp2_with fail
          refine ⟨rfl, ?_⟩
          rw [HE.out]
          exact ⟨rfl, HK.out⟩
        | ok q2 u =>
          have hin := cmtX_in hx hc hp
          rw [hx] at hS he
          obtain ⟨rfl, hM3⟩ := hS
          have hM4 := HM2.out.trans hM3
          have HE := Lib.hid he; have HM4 := Lib.hid hM4; have HIN := Lib.hid hin
          clear hc he hx hM3 hM4 hco hin
          go_wp2_with fail
          go_roundg (s.size + 1 - q2)
          case rel => exact ⟨q2, g, by have := HIN.out; omega, HIN.out.2, by have := HGF.out; have := HIN.out; omega, HE.out, HM4.out⟩
          case measure => have := HG.out; have := HIN.out; omega
end

section
open Go.RowKit Go.PlainAid

def hexd : List UInt8 := [48, 49, 50, 51, 52, 53, 54, 55, 56, 57, 97, 98, 99, 100, 101, 102]
theorem hex_all : ∀ n : Fin 256, Lib.indexByte hexd (lowC (UInt8.ofNat n.val)) = if digV (n.val : Int) < 16 then digV (n.val : Int) else -1 := by decide +kernel
theorem hex_at (c : UInt8) : Lib.indexByte hexd (lowC c) = if digV (c.toNat : Int) < 16 then digV (c.toNat : Int) else -1 := by
  have := hex_all ⟨c.toNat, c.toNat_lt⟩
  simpa using this
theorem digV_nonneg (c : Int) : 0 ≤ digV c := by
  unfold digV
  split
  · omega
  · split
    · omega
    · split <;> omega
theorem smF_ge (s : ByteArray) : ∀ (f p e : Nat), smF s f p = some e → p ≤ e ∧ e < s.size ∧ bt s e = 59
  | 0, p, e, h => by simp [smF] at h
  | f + 1, p, e, h => by
    unfold smF at h
    split at h
    · rename_i h59
      injection h with h
      subst h
      refine ⟨Nat.le_refl _, ?_, h59⟩
      by_cases hp : p < s.size
      · exact hp
      · rw [bt_end s (by omega)] at h59
        omega
    · have := smF_ge s f (p + 1) e h
      omega
theorem smF_past (s : ByteArray) : ∀ (f p : Nat), s.size ≤ p → smF s f p = none
  | 0, _, _ => rfl
  | f + 1, p, h => by
    unfold smF
    rw [bt_end s h, if_neg (by decide)]
    exact smF_past s f (p + 1) (by omega)
theorem indexByte_semi (s : ByteArray) : ∀ (f p : Nat), s.size ≤ p + f → Lib.indexByte (s.data.toList.drop p) 59 = match smF s f p with | none => -1 | some e => (e : Int) - (p : Int)
  | 0, p, h => by
    rw [List.drop_of_length_le (by rw [Array.length_toList]; show s.size ≤ p; omega)]
    rfl
  | f + 1, p, h => by
    by_cases hp : p < s.size
    · have hp' : p < s.data.toList.length := by rw [Array.length_toList]; exact hp
      have e : bt s p = ((s.data.toList[p]'hp').toNat : Int) := by
        rw [← get_bt s p hp]
        rfl
      have ih := indexByte_semi s f (p + 1) (by omega)
      rw [List.drop_eq_getElem_cons hp']
      unfold Lib.indexByte smF
      by_cases h59 : bt s p = 59
      · have hx : s.data.toList[p]'hp' = 59 := UInt8.toNat_inj.1 (by rw [e] at h59; show _ = 59; omega)
        rw [if_pos h59, hx]
        simp
      · have hx : ((s.data.toList[p]'hp') == (59 : UInt8)) = false := by
          have : s.data.toList[p]'hp' ≠ 59 := fun hx => h59 (by rw [e, hx]; rfl)
          simpa using this
        rw [if_neg h59, hx, ih]
        cases hsm : smF s f (p + 1) with
        | none => simp
        | some q =>
          simp only [Bool.false_eq_true, if_false]
          have hge : ((q : Int) - ((p + 1 : Nat) : Int) == -1) = false ∨ (q : Int) - ((p + 1 : Nat) : Int) = -1 := by
            by_cases hq : (q : Int) - ((p + 1 : Nat) : Int) = -1
            · exact .inr hq
            · exact .inl (by simpa using hq)
          rcases hge with h1 | h1
          · rw [h1]
            simp
            omega
          · exfalso
            have := (smF_ge s f (p + 1) q (by assumption)).1
            omega
    · rw [List.drop_of_length_le (by rw [Array.length_toList]; show s.size ≤ p; omega)]
      rw [smF_past s (f + 1) p (by omega)]
      rfl
theorem index_byte (l : List UInt8) (c : UInt8) : Lib.index l [c] = Lib.indexByte l c := by
  induction l with
  | nil => rfl
  | cons b l ih =>
    unfold Lib.index Lib.indexByte
    rw [ih]
    simp only [List.isPrefixOf, Bool.and_true]
    by_cases h : b = c
    · subst h
      simp
    · have h1 : (c == b) = false := by simpa using fun e => h e.symm
      have h2 : (b == c) = false := by simpa using h
      rw [h1, h2]
/-- What stands ahead of the first semicolon of a text's rest. -/
theorem cut_semi (t : ByteArray) : Lib.cut (t.extract 1 t.size).data.toList [59] = match semi t 1 with
    | none => ((t.extract 1 t.size).data.toList, [], false)
    | some e => ((t.extract 1 e).data.toList, (t.data.toList.drop 1).drop ((e - 1) + 1), true) := by
  rw [drop_list]
  unfold Lib.cut
  rw [index_byte, indexByte_semi t (t.size - 1) 1 (by omega)]
  unfold semi
  cases hs : smF t (t.size - 1) 1 with
  | none =>
    simp only
    rw [if_neg (by decide)]
  | some e =>
    have h := smF_ge t _ _ _ hs
    simp only
    rw [if_pos (by omega), show ((e : Int) - ((1 : Nat) : Int)).toNat = e - 1 by omega]
    congr 1
    rw [ByteArray.data_extract, Array.toList_extract]
theorem semi_in {t : ByteArray} {e : Nat} (h : semi t 1 = some e) : 1 ≤ e ∧ e < t.size ∧ bt t e = 59 := smF_ge t _ _ _ h
end

section
open Go.RowKit Go.PlainAid

/-- What the library's variables hold: utf8's two tables, a bound of bytealg's. -/
def Gx (w : World) : Prop := Tabs w ∧ ∃ m, w.cell? ⟨0, 0, none⟩ = some (.int .i64 m)
theorem Gx.on {w w' : World} (h : Gx w) (hB : Below w.heap.size w w') : Gx w' := by
  obtain ⟨h1, m, h2⟩ := h
  exact ⟨h1.later hB, m, cell_kept h2 hB⟩
theorem cut_any (t : ByteArray) (w : World) (hG : Gx w) (hz : t.size ≤ 4000000000) :
    Calls Tryz.prog 119 #[.string (t.extract 1 t.size), .string ⟨#[59]⟩] w fun e w' => (match semi t 1 with
      | none => ∃ a b, e = .returned (.tuple #[.string a, .string b, .bool false])
      | some k => ∃ b, e = .returned (.tuple #[.string (t.extract 1 k), .string b, .bool true])) ∧ Below w.heap.size w w' := by
  obtain ⟨m, hm⟩ := hG.2
  refine (Tryz.strings_Cut (t.extract 1 t.size) ⟨#[59]⟩ m w (by rw [ByteArray.size_extract]; omega) hm).mono ?_
  rintro e w' ⟨h1, n, rfl⟩
  refine ⟨?_, bdN0 (Below.refl _ _) n⟩
  have hc := cut_semi t
  rw [h1, show (⟨#[59]⟩ : ByteArray).data.toList = [59] from rfl, hc]
  cases semi t 1 with
  | none => exact ⟨_, _, rfl⟩
  | some k => exact ⟨_, rfl⟩
theorem mk_list (d : ByteArray) : (⟨d.data.toList.toArray⟩ : ByteArray) = d := by cases d; simp
/-- strings.CutPrefix at one byte. -/
theorem cutPrefix_one (d : ByteArray) (c : UInt8) (hc : c ≠ 0) (w : World) :
    Calls Tryz.prog 120 #[.string d, .string ⟨#[c]⟩] w fun e w' => e = .returned (.tuple #[.string (if bt d 0 = (c.toNat : Int) then d.extract 1 d.size else d), .bool (decide (bt d 0 = (c.toNat : Int)))]) ∧ w = w' := by
  refine (Tryz.strings_CutPrefix d ⟨#[c]⟩ w).mono fun e w' ⟨h1, h2⟩ => ⟨?_, h2.symm⟩
  have hp : Lib.hasPrefix d.data.toList [c] = decide (bt d 0 = (c.toNat : Int)) := by
    have h := prefix_wd d [c] 0 (by simpa using hc)
    unfold Lib.hasPrefix
    rw [List.drop_zero] at h
    rw [h]
    simp only [List.map_cons, List.map_nil, wdAt, Bool.and_true]
    rfl
  rw [h1, show (⟨#[c]⟩ : ByteArray).data.toList = [c] from rfl]
  unfold Lib.trimPrefix
  rw [hp]
  by_cases h : bt d 0 = (c.toNat : Int)
  · rw [decide_eq_true h, if_pos h, if_pos rfl]
    have : (⟨(d.data.toList.drop [c].length).toArray⟩ : ByteArray) = d.extract 1 d.size := by
      rw [← mk_list (d.extract 1 d.size), drop_list]
      rfl
    rw [this]
  · rw [decide_eq_false h, if_neg h]
    simp only [Bool.false_eq_true, if_false]
theorem extract_rest (t : ByteArray) (a b : Nat) (hb : b ≤ t.size) : (t.extract a b).extract 1 (t.extract a b).size = t.extract (a + 1) b := by
  rw [ByteArray.extract_extract, ByteArray.size_extract]
  try (congr 1; omega)
theorem lowx_size (s : ByteArray) : (low s).size = s.size := mapB_size _ _
/-- One hexadecimal digit. -/
theorem digit_one (d : ByteArray) (i : Nat) (hi : i < d.size) (w : World) :
    Calls Tryz.prog 116 #[.string ⟨#[48, 49, 50, 51, 52, 53, 54, 55, 56, 57, 97, 98, 99, 100, 101, 102]⟩, .int .u8 (bt (low (d.extract i (i + 1))) 0)] w fun e w' => e = .returned (.int .i64 (if digV (bt d i) < 16 then digV (bt d i) else -1)) ∧ w = w' := by
  refine (Tryz.strings_IndexByte _ _ w).mono fun e w' ⟨h1, h2⟩ => ⟨?_, h2.symm⟩
  rw [h1]
  have hs : (d.extract i (i + 1)).size = 1 := by rw [ByteArray.size_extract]; omega
  have hl : (low (d.extract i (i + 1))).size = 1 := by rw [lowx_size, hs]
  have e0 : bt (d.extract i (i + 1)) 0 = bt d i := by
    rw [bt_sub d i (i + 1) 0 (by omega) (by omega)]
    rfl
  have e1 : bt (low (d.extract i (i + 1))) 0 = ((lowC ((d.extract i (i + 1))[0]'(by omega))).toNat : Int) := by
    rw [← get_bt _ 0 (by omega)]
    unfold low
    rw [mapB_get lowC (d.extract i (i + 1)) 0 (by omega)]
  have e2 : (((d.extract i (i + 1))[0]'(by omega)).toNat : Int) = bt d i := by rw [get_bt _ 0 (by omega), e0]
  have e3 : (lowC ((d.extract i (i + 1))[0]'(by omega))).toNat.toUInt8 = lowC ((d.extract i (i + 1))[0]'(by omega)) := UInt8.ofNat_toNat
  have := hex_at ((d.extract i (i + 1))[0]'(by omega))
  rw [e2] at this
  rw [e1, Int.toNat_natCast, e3, show (⟨#[48, 49, 50, 51, 52, 53, 54, 55, 56, 57, 97, 98, 99, 100, 101, 102]⟩ : ByteArray).data.toList = hexd from rfl, this]
theorem numF_none {d : ByteArray} {base : Int} {f p : Nat} {x : Int} (h : ¬ digV (bt d p) < base) : numF d base (f + 1) p x = none := by
  unfold numF
  rw [if_neg h]
theorem numF_some {d : ByteArray} {base : Int} {f p : Nat} {x : Int} (h : digV (bt d p) < base) : numF d base (f + 1) p x = numF d base f (p + 1) (x * base + digV (bt d p)) := by
  conv => lhs; unfold numF
  rw [if_pos h]
theorem five_cases {b : ByteArray} {r : Int} (h : fiveX b = some r) : (b = ⟨#[108, 116]⟩ ∧ r = 60) ∨ (b = ⟨#[103, 116]⟩ ∧ r = 62) ∨ (b = ⟨#[97, 109, 112]⟩ ∧ r = 38) ∨ (b = ⟨#[113, 117, 111, 116]⟩ ∧ r = 34) ∨ (b = ⟨#[97, 112, 111, 115]⟩ ∧ r = 39) := by
  unfold fiveX at h
  split at h
  · injection h with h; exact .inl ⟨by assumption, h.symm⟩
  · split at h
    · injection h with h; exact .inr (.inl ⟨by assumption, h.symm⟩)
    · split at h
      · injection h with h; exact .inr (.inr (.inl ⟨by assumption, h.symm⟩))
      · split at h
        · injection h with h; exact .inr (.inr (.inr (.inl ⟨by assumption, h.symm⟩)))
        · split at h
          · injection h with h; exact .inr (.inr (.inr (.inr ⟨by assumption, h.symm⟩)))
          · cases h
/-- What reference hands back. -/
def RefEnd (t : ByteArray) (w : World) (e : Ending) (w' : World) : Prop :=
  (match refT t with
    | none => ∃ a b, e = .returned (.tuple #[.int .i32 a, .int .i64 b, .bool false])
    | some r => e = .returned (.tuple #[.int .i32 r.1, .int .i64 (r.2 : Int), .bool true])) ∧ Below w.heap.size w w'
set_option maxRecDepth 100000 in
set_option maxHeartbeats 4000000 in
theorem reference_five (t : ByteArray) (w : World) (hG : Gx w) (h1 : 1 ≤ t.size) (hz : t.size ≤ 4000000000) (h : semi t 1 = none ∨ ∃ k r, semi t 1 = some k ∧ fiveX (t.extract 1 k) = some r) :
    Calls Tryz.prog 100 #[.string t] w fun e w' => RefEnd t w e w' := by
  have hc := cut_any t w hG hz
  have hI : (1 : Int) ≤ t.size := by omega
  rcases h with hs | ⟨k, r, hs, hf⟩
  · rw [hs] at hc
    simp only at hc
    have hr : refT t = none := by unfold refT; rw [hs]
    have HR := Lib.hid hr
    clear hs hr
    go_enter Tryz.func100, Tryz.ntmps100
    go_wp2_with fail
    refine hc.mono ?_
    rintro e w1 ⟨⟨a, b, rfl⟩, hB⟩
    go_wp2_with fail
    refine bodyPost_ret (v := .tuple #[.int .i32 0, .int .i64 0, .bool false]) (by simp [results, Tryz.results100, go_sem]) rfl ?_
    unfold RefEnd
    rw [HR.out]
    exact ⟨⟨_, _, rfl⟩, hB⟩
  · rw [hs] at hc
    obtain ⟨hk1, hk2, _⟩ := semi_in hs
    have hr : refT t = some (r, k + 1) := by unfold refT; rw [hs]; simp only; rw [hf]
    have hsz : (t.extract 1 k).size = k - 1 := by rw [ByteArray.size_extract]; omega
    have f1 : IntKind.i64.wrap (((t.extract 1 k).size : Int) + 2) = ((k + 1 : Nat) : Int) := by rw [hsz, IntWalk.i64_in _ (by omega)]; omega
    obtain ⟨B, hB⟩ : ∃ B, t.extract 1 k = B := ⟨_, rfl⟩
    simp only at hc
    have hkk : (t.extract 1 k).size + 2 = k + 1 := by omega
    rw [hB] at hc hf f1 hkk
    have HR := Lib.hid hr; have HK := Lib.hid hkk
    clear hs hr hsz hB hk1 hk2 hkk
    rcases five_cases hf with ⟨rfl, rfl⟩ | ⟨rfl, rfl⟩ | ⟨rfl, rfl⟩ | ⟨rfl, rfl⟩ | ⟨rfl, rfl⟩
    all_goals
      clear hf
      go_enter Tryz.func100, Tryz.ntmps100
      go_wp2_with fail
      refine hc.mono ?_
      rintro e w1 ⟨⟨b, rfl⟩, hB⟩
      go_wp2_with fail
      refine bodyPost_ret (by simp [results, Tryz.results100, go_sem]; rfl) rfl ?_
      unfold RefEnd
      rw [HR.out]
      have hk := HK.out
      simp [ByteArray.size] at hk
      exact ⟨by simp; omega, hB⟩
end
end Go.Proofs.YtdipbfchlopeaaaGreatDoor
